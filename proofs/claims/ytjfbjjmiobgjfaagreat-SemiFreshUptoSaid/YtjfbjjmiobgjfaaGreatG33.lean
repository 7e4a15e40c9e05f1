/- The makers of the join's tests. -/
import Derived.Test.YtjfbjjmiobgjfaaGreatG32
set_option maxRecDepth 100000
set_option maxHeartbeats 8000000
namespace Go.Proofs.YtjfbjjmiobgjfaaGreat
open ChangeShapes WideShapes ChangeAt RowKit
theorem ZjC (w:World)(a:Addr)(f:Fn)(c b:Array Value)(m:Mode):(store a (.func f c b) m).run Tryz.prog w=stored Tryz.prog w a (.func f c b) m:=run_store Tryz.prog w a _ m rfl
attribute [local go_sem] ZjC
def Zf4 (vars:List Nat):Int:=match vars.getLast? with
 |some v=>(v:Nat)
 |none=> -1
def ZlJ (vars:List Nat)(av:Option Addr)(cv:Nat)(pv:Value)(w:World)(e:Ending)(w':World):Prop:=
 ∃bt:Nat,e=.returned (.agg #[.int .i64 (Zf4 vars),.func (.func 132) #[] #[.pointer (some ⟨bt,0,none⟩)]])∧w'.cell? ⟨bt,0,none⟩=some (.slice av vars.length cv)∧w'.cell? ⟨bt,1,none⟩=some pv∧w.heap.size≤bt∧Ext w w'
theorem Zoo (vars:List Nat)(av:Option Addr)(cv:Nat)(pr:Nat)(w:World)(hv:Zon w av vars)(hn:vars.length≤1000000):
  Calls Tryz.prog 105 #[.agg #[.slice av vars.length cv,.pointer (some ⟨pr,0,none⟩)]] w (ZlJ vars av cv (.pointer (some ⟨pr,0,none⟩)) w):=by
 have PO:Hid (∀w' bt,w'.cell? ⟨bt,0,none⟩=some (.slice av vars.length cv)→w'.cell? ⟨bt,1,none⟩=some (.pointer (some ⟨pr,0,none⟩))→w.heap.size≤bt→Ext w w'→∀v f,v=Zf4 vars→f=.func (.func 132) #[] #[.pointer (some ⟨bt,0,none⟩)]→ZlJ vars av cv (.pointer (some ⟨pr,0,none⟩)) w (.returned (.agg #[.int .i64 v,f])) w'):=by
  rintro w' bt h1 h2 h3 h4 v f rfl rfl
  exact⟨bt,rfl,h1,h2,h3,h4⟩
 by_cases h0:vars=[]
 ·subst h0
  go_enter Tryz.func105,Tryz.ntmps105
  go_wp2
  go_returns
  exact PO.out _ w.heap.size (by go_simp) (by go_simp) (Nat.le_refl _) (by go_grown) _ _ rfl rfl
 ·obtain⟨pre,z,hz⟩:∃pre z,vars=pre++[z]:=by
   rcases vars.eq_nil_or_concat with e|⟨pre,z,e⟩
   ·exact absurd e h0
   ·exact⟨pre,z,by rw[e,List.concat_eq_append]⟩
  obtain⟨b,o,rfl,hc⟩:=hv pre.length z (by rw[hz];simp)
  have hl:vars.length=pre.length+1:=by rw[hz];simp
  have HL:Hid (Zf4 vars=(z:Nat)):=by
   show _=_
   unfold Zf4
   rw[hz,List.getLast?_concat]
  have hb:=World.block_lt_of_cell? _ _ hc
  dsimp only at hb
  obtain⟨k,hk⟩:∃k,pre.length=k:=⟨_,rfl⟩
  rw[hk] at hl hc
  rw[hl] at PO ⊢
  clear hv hz h0
  have w1:IntKind.i64.wrap (((k+1:Nat):Int)-1)=(k:Int):=by rw[IntKind.wrap_i64];omega
  go_enter Tryz.func105,Tryz.ntmps105
  go_wp2
  go_returns
  exact PO.out _ w.heap.size (by go_simp) (by go_simp) (Nat.le_refl _) (by go_grown) _ _ HL.out.symm rfl
def Zcy (names:List ByteArray)(k:Int)(t:ByteArray):Int:=if k=1 then Zgu names t else -1
def Zop (a b op k1 k2:Int)(t1 t2:ByteArray)(w:World)(e:Ending)(w':World):Prop:=
 ∃p1 p2 p3 p4:Nat,e=.returned (.agg #[.int .i64 (max a b),.func (.func 134) #[] #[.pointer (some ⟨p1,0,none⟩),.pointer (some ⟨p2,0,none⟩),.pointer (some ⟨p3,0,none⟩),.pointer (some ⟨p4,0,none⟩)]])∧
  w'.cell? ⟨p1,0,none⟩=some (.func (.func 133) #[] #[])∧w'.cell? ⟨p2,0,none⟩=some (.int .i64 a)∧(w'.cell? ⟨p3,3,none⟩=some (.int .i64 op)∧w'.cell? ⟨p3,4,none⟩=some (.int .i64 k1)∧w'.cell? ⟨p3,5,none⟩=some (.string t1)∧w'.cell? ⟨p3,6,none⟩=some (.int .i64 k2)∧w'.cell? ⟨p3,7,none⟩=some (.string t2))∧w'.cell? ⟨p4,0,none⟩=some (.int .i64 b)∧
  (w.heap.size≤p1∧w.heap.size≤p2∧w.heap.size≤p3∧w.heap.size≤p4)∧Ext w w'
theorem ZmN (names:List ByteArray)(an:Option Addr)(n cn:Nat)(kd:Int)(pred:ByteArray)(at_:Option Addr)(nt ct:Nat)(op k1 k2:Int)(t1 t2:ByteArray)(w:World)(h:Zai w an n names):
  Calls Tryz.prog 106 #[.agg #[.int .i64 kd,.string pred,.slice at_ nt ct,.int .i64 op,.int .i64 k1,.string t1,.int .i64 k2,.string t2],.slice an n cn] w (Zop (Zcy names k1 t1) (Zcy names k2 t2) op k1 k2 t1 t2 w):=by
 have IX:Hid (∀W t,Ext w W→Calls Tryz.prog 66 #[.slice an n cn,.string t] W fun e w'=>e=.returned (.int .i64 (Zgu names t))∧w'=W):=fun W t hW=>Ziu names t an n cn W (h.keep hW)
 clear h
 obtain⟨i1,h1⟩:∃i,Zgu names t1=i:=⟨_,rfl⟩
 obtain⟨i2,h2⟩:∃i,Zgu names t2=i:=⟨_,rfl⟩
 have H1:=zh h1
 have H2:=zh h2
 unfold Zcy
 rw[h1,h2]
 clear h1 h2
 by_cases e1:k1=1
 ·subst e1
  rw[if_pos rfl]
  by_cases e2:k2=1
  ·subst e2
   rw[if_pos rfl]
   go_enter Tryz.func106,Tryz.ntmps106
   go_wp2_with (first
    |(go_at_call 66;(with_reducible refine(IX.out _ t1 (by go_grown)).mono ?_);rw[H1.out];rintro e w1 ⟨rfl,hw1⟩;obtain rfl:=hw1.symm)
    |(go_at_call 66;(with_reducible refine(IX.out _ t2 (by go_grown)).mono ?_);rw[H2.out];rintro e w1 ⟨rfl,hw1⟩;obtain rfl:=hw1.symm))
   go_returns
   exact⟨w.heap.size+1+1+1+1,w.heap.size+1+1,w.heap.size,w.heap.size+1+1+1,rfl,by go_simp,by go_simp,⟨by go_simp,by go_simp,by go_simp,by go_simp,by go_simp⟩,by go_simp,⟨by omega,by omega,by omega,by omega⟩,by go_grown⟩
  ·rw[if_neg e2]
   have e2':(k2==1)=false:=by rw[beq_eq_false_iff_ne];exact e2
   clear e2
   go_enter Tryz.func106,Tryz.ntmps106
   go_wp2_with (first
    |(go_at_call 66;(with_reducible refine(IX.out _ t1 (by go_grown)).mono ?_);rw[H1.out];rintro e w1 ⟨rfl,hw1⟩;obtain rfl:=hw1.symm)
    |(go_at_call 66;(with_reducible refine(IX.out _ t2 (by go_grown)).mono ?_);rw[H2.out];rintro e w1 ⟨rfl,hw1⟩;obtain rfl:=hw1.symm))
   go_returns
   exact⟨w.heap.size+1+1+1+1,w.heap.size+1+1,w.heap.size,w.heap.size+1+1+1,rfl,by go_simp,by go_simp,⟨by go_simp,by go_simp,by go_simp,by go_simp,by go_simp⟩,by go_simp,⟨by omega,by omega,by omega,by omega⟩,by go_grown⟩
 ·rw[if_neg e1]
  have e1':(k1==1)=false:=by rw[beq_eq_false_iff_ne];exact e1
  clear e1
  by_cases e2:k2=1
  ·subst e2
   rw[if_pos rfl]
   go_enter Tryz.func106,Tryz.ntmps106
   go_wp2_with (first
    |(go_at_call 66;(with_reducible refine(IX.out _ t1 (by go_grown)).mono ?_);rw[H1.out];rintro e w1 ⟨rfl,hw1⟩;obtain rfl:=hw1.symm)
    |(go_at_call 66;(with_reducible refine(IX.out _ t2 (by go_grown)).mono ?_);rw[H2.out];rintro e w1 ⟨rfl,hw1⟩;obtain rfl:=hw1.symm))
   go_returns
   exact⟨w.heap.size+1+1+1+1,w.heap.size+1+1,w.heap.size,w.heap.size+1+1+1,rfl,by go_simp,by go_simp,⟨by go_simp,by go_simp,by go_simp,by go_simp,by go_simp⟩,by go_simp,⟨by omega,by omega,by omega,by omega⟩,by go_grown⟩
  ·rw[if_neg e2]
   have e2':(k2==1)=false:=by rw[beq_eq_false_iff_ne];exact e2
   clear e2
   go_enter Tryz.func106,Tryz.ntmps106
   go_wp2_with (first
    |(go_at_call 66;(with_reducible refine(IX.out _ t1 (by go_grown)).mono ?_);rw[H1.out];rintro e w1 ⟨rfl,hw1⟩;obtain rfl:=hw1.symm)
    |(go_at_call 66;(with_reducible refine(IX.out _ t2 (by go_grown)).mono ?_);rw[H2.out];rintro e w1 ⟨rfl,hw1⟩;obtain rfl:=hw1.symm))
   go_returns
   exact⟨w.heap.size+1+1+1+1,w.heap.size+1+1,w.heap.size,w.heap.size+1+1+1,rfl,by go_simp,by go_simp,⟨by go_simp,by go_simp,by go_simp,by go_simp,by go_simp⟩,by go_simp,⟨by omega,by omega,by omega,by omega⟩,by go_grown⟩
abbrev ZhF (n:Nat):Value:=.int .i64 (n:Nat)
def Zf5 {α:Type}(f:Nat→α)(k:Nat)(v:α):Nat→α:=fun x=>if x=k then v else f x
def Zfm (l:List (Int×Value)):List Value:=l.flatMap fun x=>[.int .i64 x.1,x.2]
structure ZbN (w:World)(C:Nat→Prop)(B0 ga n:Nat)(et rt:TypeId)(size:Nat)(ls:Nat→List Value)(ns:Nat→Nat):Prop where
 cga:C ga
 ty:Ty w ga rt
 each:∃fv:Nat→Value,(∀v,v<n→w.cell? ⟨ga,v,none⟩=some (fv v)∧w.frozen? ⟨ga,v,none⟩=false∧w.ownsRow B0 et size (fv v) (ns v) (ls v)∧∀b,(fv v).ownBlock=some b→C b)∧∀v v',v<n→v'<n→v≠v'→∀b,(fv v).ownBlock=some b→(fv v').ownBlock≠some b
theorem Zet {w w':World}{b o:Nat}{v:Value}{q:Bool}(e:Ext w w')(h:w.cell? ⟨b,o,none⟩=some v)(hf:w.frozen? ⟨b,o,none⟩=q):w'.frozen? ⟨b,o,none⟩=q:=(e.frozen (p:=⟨b,o,none⟩) (World.block_lt_of_cell? w ⟨b,o,none⟩ h)).trans hf
theorem ZbN.ext {w w':World}{C:Nat→Prop}{B0 ga n:Nat}{et rt:TypeId}{size:Nat}{ls:Nat→List Value}{ns:Nat→Nat}(h:ZbN w C B0 ga n et rt size ls ns)(e:Ext w w'):ZbN w' C B0 ga n et rt size ls ns:=by
 obtain⟨fv,h1,h2⟩:=h.each
 exact⟨h.cga,h.ty.ext e,fv,fun v hv=>⟨Zac e (h1 v hv).1,Zet e (h1 v hv).1 (h1 v hv).2.1,Zar (h1 v hv).2.2.1 e,(h1 v hv).2.2.2⟩,h2⟩
theorem ZbN.mono {w:World}{C C':Nat→Prop}{B0 ga n:Nat}{et rt:TypeId}{size:Nat}{ls:Nat→List Value}{ns:Nat→Nat}(h:ZbN w C B0 ga n et rt size ls ns)(hc:∀b,C b→C' b):ZbN w C' B0 ga n et rt size ls ns:=by
 obtain⟨fv,h1,h2⟩:=h.each
 exact⟨hc _ h.cga,h.ty,fv,fun v hv=>⟨(h1 v hv).1,(h1 v hv).2.1,(h1 v hv).2.2.1,fun b hb=>hc b ((h1 v hv).2.2.2 b hb)⟩,h2⟩
theorem ZbN.but {w w':World}{S C:Nat→Prop}{B0 ga n:Nat}{et rt:TypeId}{size:Nat}{ls:Nat→List Value}{ns:Nat→Nat}(h:ZbN w C B0 ga n et rt size ls ns)(e:Zah S w w')(hs:∀b,S b→¬Ty w b et∧¬Ty w b rt):ZbN w' C B0 ga n et rt size ls ns:=by
 obtain⟨fv,h1,h2⟩:=h.each
 have hga:¬S ga:=fun q=>(hs ga q).2 h.ty
 exact⟨h.cga,h.ty.but e hga,fv,fun v hv=>⟨e.cell hga (h1 v hv).1,ZaE e hga (World.block_lt_of_cell? w ⟨ga,v,none⟩ (h1 v hv).1) (h1 v hv).2.1,e.own (h1 v hv).2.2.1 (fun b hb q=>(hs b q).1 (ZaN (h1 v hv).2.2.1 hb)),(h1 v hv).2.2.2⟩,h2⟩
theorem ZbN.push {w w6:World}{C:Nat→Prop}{B0 ga n:Nat}{et rt:TypeId}{size:Nat}{ls:Nat→List Value}{ns:Nat→Nat}(h:ZbN w C B0 ga n et rt size ls ns)(hne:et≠rt){v:Nat}(hv:v<n){x:Value}(hx:w.cell? ⟨ga,v,none⟩=some x){o:Obj}{g c:Nat}{news:List Value}(own:w6.ownsRow B0 et size (.slice (some ⟨g,0,none⟩) (ns v+1) c) (ns v+1) (ls v++news))(q:(w.alloc o).grownBy w6 x.ownBlock)(hg:x.ownBlock=some g∨w.heap.size≤g):
  w6.cell? ⟨ga,v,none⟩=some x∧w6.frozen? ⟨ga,v,none⟩=false∧(∀b,x.ownBlock=some b→C b∧Ty w b et)∧ZbN (w6.setCell ⟨ga,v,none⟩ (.slice (some ⟨g,0,none⟩) (ns v+1) c)) (fun b=>C b∨b=g) B0 ga n et rt size (Zf5 ls v (ls v++news)) (Zf5 ns v (ns v+1)):=by
 obtain⟨fv,h1,h2⟩:=h.each
 obtain⟨x1,x2,x3,x4⟩:=h1 v hv
 rw[hx] at x1
 cases x1
 have b6:Zah (fun b=>(fv v).ownBlock=some b) w w6:=((Zah.refl _ w).alloc o).grown q (fun b e=>.inl e)
 have nga:¬(fv v).ownBlock=some ga:=fun e=>(ZaN x3 e).ne h.ty hne rfl
 have c6:=b6.cell nga hx
 have f6:=ZaE b6 nga h.ty.lt x2
 have tg:Ty w6 g et:=ZaN own rfl
 have t6:=h.ty.but b6 nga
 have gne:g≠ga:=tg.ne t6 hne
 have b7:Zah (fun b=>b=ga) w6 (w6.setCell ⟨ga,v,none⟩ (.slice (some ⟨g,0,none⟩) (ns v+1) c)):=(Zah.refl (fun b=>b=ga) w6).set (.inl rfl) _ _
 refine⟨c6,f6,fun b hb=>⟨x4 b hb,ZaN x3 hb⟩,.inl h.cga,?_,Zf5 fv v (.slice (some ⟨g,0,none⟩) (ns v+1) c),fun u hu=>?_,fun u u' hu hu' huu b hb=>?_⟩
 ·obtain⟨cs,y,e⟩:=t6
  obtain⟨cs',e'⟩:=Zbk e v (.slice (some ⟨g,0,none⟩) (ns v+1) c)
  exact⟨cs',y,e'⟩
 ·unfold Zf5
  by_cases huv:u=v
  ·subst huv
   simp only[↓reduceIte]
   refine⟨World.cell?_setCell_same _ _ _ c6,by rw[World.frozen?_setCell];exact f6,Zam own (.inr (fun e=>by cases e;exact gne rfl)) _,fun b hb=>?_⟩
   cases hb
   exact .inr rfl
  ·simp only[huv,↓reduceIte]
   obtain⟨y1,y2,y3,y4⟩:=h1 u hu
   have hl:=World.block_lt_of_cell? w ⟨ga,u,none⟩ y1
   refine⟨?_,?_,b7.own (b6.own y3 (fun b hb hb2=>h2 u v hu hv huv b hb hb2)) (fun b hb e=>by subst e;exact(ZaN y3 hb).ne h.ty hne rfl),fun b hb=>.inl (y4 b hb)⟩
   ·rw[World.cell?_setCell_other _ _ _ _ (by intro e;injection e with _ e2;exact huv e2.symm)]
    exact b6.cell nga y1
   ·rw[World.frozen?_setCell]
    exact ZaE b6 nga hl y2
 ·unfold Zf5 at hb ⊢
  have hgn:∀u,u<n→u≠v→∀b,(fv u).ownBlock=some b→b≠g:=fun u0 hu0 huv0 b0 hb0 e=>by
   subst e
   rcases hg with e|e
   ·exact h2 u0 v hu0 hv huv0 b0 hb0 e
   ·have:=((h1 u0 hu0).2.2.1.lt b0 hb0).2
    omega
  by_cases huv:u=v
  ·subst huv
   rw[if_pos rfl] at hb
   rw[if_neg (fun e=>huu e.symm)]
   cases hb
   intro e
   exact hgn u' hu' (fun e=>huu e.symm) _ e rfl
  ·rw[if_neg huv] at hb
   by_cases huv':u'=v
   ·subst huv'
    rw[if_pos rfl]
    intro e
    cases e
    exact hgn u hu huv _ hb rfl
   ·rw[if_neg huv']
    exact h2 u u' hu hu' huu b hb
structure ZeJ (w:World)(C:Nat→Prop)(B0 pm:Nat)(an:Option Addr)(n cn:Nat)(at_:Nat→List Nat)(pts:List Nat)(tl:Nat→List (Int×Value)):Prop where
 low:∀b,C b→B0≤b∧b<w.heap.size
 cpm:C pm
 ty:Ty w pm 160
 c0:w.cell? ⟨pm,0,none⟩=some (.slice an n cn)
 tries:∃v,w.cell? ⟨pm,1,none⟩=some v∧w.frozen? ⟨pm,1,none⟩=false∧w.ownsRow B0 175 1 v pts.length (pts.map Zi2)∧∀b,v.ownBlock=some b→C b
 at_:∃ga ca,w.cell? ⟨pm,2,none⟩=some (.slice (some ⟨ga,0,none⟩) n ca)∧ZbN w C B0 ga n 3 161 1 (fun v=>(at_ v).map ZhF) (fun v=>(at_ v).length)
 tests:∃gt ct,w.cell? ⟨pm,3,none⟩=some (.slice (some ⟨gt,0,none⟩) (n+1) ct)∧ZbN w C B0 gt (n+1) 168 201 2 (fun v=>Zfm (tl v)) (fun v=>(tl v).length)
theorem ZeJ.ext {w w':World}{C:Nat→Prop}{B0 pm:Nat}{an:Option Addr}{n cn:Nat}{at_:Nat→List Nat}{pts:List Nat}{tl:Nat→List (Int×Value)}(h:ZeJ w C B0 pm an n cn at_ pts tl)(e:Ext w w'):ZeJ w' C B0 pm an n cn at_ pts tl:=by
 obtain⟨v,t1,t2,t3,t4⟩:=h.tries
 obtain⟨ga,ca,a1,a2⟩:=h.at_
 obtain⟨gt,ct,b1,b2⟩:=h.tests
 exact⟨fun b hb=>⟨(h.low b hb).1,Nat.lt_of_lt_of_le (h.low b hb).2 e.size⟩,h.cpm,h.ty.ext e,Zac e h.c0,⟨v,Zac e t1,Zet e t1 t2,Zar t3 e,t4⟩,⟨ga,ca,Zac e a1,a2.ext e⟩,gt,ct,Zac e b1,b2.ext e⟩
def ZeU (C C':Nat→Prop)(w w':World):Prop:=Zah C w w'∧∀b,C' b→C b∨w.heap.size≤b
theorem ZeU.pre {C C':Nat→Prop}{w w1 w2:World}(e:Ext w w1)(h:ZeU C C' w1 w2):ZeU C C' w w2:=⟨((Zah.refl _ w).ext e).trans h.1,fun b hb=>(h.2 b hb).imp id (fun q=>Nat.le_trans e.size q)⟩
theorem ZeJ.at_push {w w6:World}{C:Nat→Prop}{B0 pm:Nat}{an:Option Addr}{n cn:Nat}{at_:Nat→List Nat}{pts:List Nat}{tl:Nat→List (Int×Value)}(h:ZeJ w C B0 pm an n cn at_ pts tl){ga ca v z g c:Nat}{x:Value}{o:Obj}(ha:w.cell? ⟨pm,2,none⟩=some (.slice (some ⟨ga,0,none⟩) n ca))(hv:v<n)(hx:w.cell? ⟨ga,v,none⟩=some x)
  (own:w6.ownsRow B0 3 1 (.slice (some ⟨g,0,none⟩) ((at_ v).length+1) c) ((at_ v).length+1) ((at_ v).map ZhF++[ZhF z])) (q:(w.alloc o).grownBy w6 x.ownBlock) (hg:x.ownBlock=some g∨w.heap.size≤g):
  w6.cell? ⟨ga,v,none⟩=some x∧w6.frozen? ⟨ga,v,none⟩=false∧∃C',ZeJ (w6.setCell ⟨ga,v,none⟩ (.slice (some ⟨g,0,none⟩) ((at_ v).length+1) c)) C' B0 pm an n cn (Zf5 at_ v (at_ v++[z])) pts tl∧ZeU C C' w (w6.setCell ⟨ga,v,none⟩ (.slice (some ⟨g,0,none⟩) ((at_ v).length+1) c)):=by
 obtain⟨tv,t1,t2,t3,t4⟩:=h.tries
 obtain⟨ga',ca',a1,a2⟩:=h.at_
 obtain⟨gt,ct,b1,b2⟩:=h.tests
 rw[ha] at a1
 cases a1
 obtain⟨c6,f6,cx,LS⟩:=a2.push (by decide) hv hx own q hg
 have BS:Zah (fun b=>x.ownBlock=some b∨b=ga) w (w6.setCell ⟨ga,v,none⟩ (.slice (some ⟨g,0,none⟩) ((at_ v).length+1) c)):=(((Zah.refl _ w).alloc o).grown q (fun b e=>.inl (.inl e))).set (.inl (.inr rfl)) _ _
 have hS:∀b,(x.ownBlock=some b∨b=ga)→Ty w b 3∨Ty w b 161:=fun b hb=>by
  rcases hb with hb|rfl
  ·exact .inl (cx b hb).2
  ·exact .inr a2.ty
 have nt:∀{b t},Ty w b t→t≠3→t≠161→¬(x.ownBlock=some b∨b=ga):=fun ht n1 n2 q=>by
  rcases hS _ q with q|q
  ·exact ht.ne q n1 rfl
  ·exact ht.ne q n2 rfl
 have npm:=nt h.ty (by decide) (by decide)
 have hpm:=h.ty.lt
 have gl:=(own.lt g rfl).2
 have CC:∀b,(x.ownBlock=some b∨b=ga)→C b:=fun b hb=>by
  rcases hb with hb|rfl
  ·exact(cx b hb).1
  ·exact a2.cga
 refine⟨c6,f6,fun b=>C b∨b=g,⟨fun b hb=>?_,.inl h.cpm,h.ty.but BS npm,BS.cell npm h.c0,⟨tv,BS.cell npm t1,ZaE BS npm hpm t2,BS.own t3 (fun b hb=>nt (ZaN t3 hb) (by decide) (by decide)),fun b hb=>.inl (t4 b hb)⟩,⟨ga,ca,BS.cell npm ha,?_⟩,gt,ct,BS.cell npm b1,(b2.but BS (fun b hb=>?_)).mono (fun b hb=>.inl hb)⟩,BS.mono (fun b _ hb=>CC b hb),fun b hb=>?_⟩
 ·rcases hb with hb|rfl
  ·exact⟨(h.low b hb).1,Nat.lt_of_lt_of_le (h.low b hb).2 BS.size⟩
  ·exact⟨(own.lt b rfl).1,by simpa using gl⟩
 ·have e1:(Zf5 (fun v=>(at_ v).map ZhF) v ((at_ v).map ZhF++[ZhF z]))=fun u=>(Zf5 at_ v (at_ v++[z]) u).map ZhF:=by
   funext u
   unfold Zf5
   split
   ·rename_i e;subst e;simp
   ·rfl
  have e2:(Zf5 (fun v=>(at_ v).length) v ((at_ v).length+1))=fun u=>(Zf5 at_ v (at_ v++[z]) u).length:=by
   funext u
   unfold Zf5
   split
   ·rename_i e;subst e;simp
   ·rfl
  rw[e1,e2] at LS
  exact LS
 ·rcases hS b hb with q|q
  ·exact⟨fun h2=>q.ne h2 (by decide) rfl,fun h2=>q.ne h2 (by decide) rfl⟩
  ·exact⟨fun h2=>q.ne h2 (by decide) rfl,fun h2=>q.ne h2 (by decide) rfl⟩
 ·rcases hb with hb|rfl
  ·exact .inl hb
  ·rcases hg with e|e
   ·exact .inl (cx b e).1
   ·exact .inr e
theorem ZeJ.try_push {w w6:World}{C:Nat→Prop}{B0 pm:Nat}{an:Option Addr}{n cn:Nat}{at_:Nat→List Nat}{pts:List Nat}{tl:Nat→List (Int×Value)}(h:ZeJ w C B0 pm an n cn at_ pts tl){pt g c:Nat}{x:Value}{o:Obj}(hx:w.cell? ⟨pm,1,none⟩=some x)
  (own:w6.ownsRow B0 175 1 (.slice (some ⟨g,0,none⟩) (pts.length+1) c) (pts.length+1) (pts.map Zi2++[Zi2 pt])) (q:(w.alloc o).grownBy w6 x.ownBlock) (hg:x.ownBlock=some g∨w.heap.size≤g):
  w6.cell? ⟨pm,1,none⟩=some x∧w6.frozen? ⟨pm,1,none⟩=false∧∃C',ZeJ (w6.setCell ⟨pm,1,none⟩ (.slice (some ⟨g,0,none⟩) (pts.length+1) c)) C' B0 pm an n cn at_ (pts++[pt]) tl∧ZeU C C' w (w6.setCell ⟨pm,1,none⟩ (.slice (some ⟨g,0,none⟩) (pts.length+1) c)):=by
 obtain⟨tv,t1,t2,t3,t4⟩:=h.tries
 obtain⟨ga,ca,a1,a2⟩:=h.at_
 obtain⟨gt,ct,b1,b2⟩:=h.tests
 rw[hx] at t1
 cases t1
 have BX:Zah (fun b=>x.ownBlock=some b) w w6:=((Zah.refl _ w).alloc o).grown q (fun b e=>.inl e)
 have npm:¬x.ownBlock=some pm:=fun e=>(ZaN t3 e).ne h.ty (by decide) rfl
 have hpm:=h.ty.lt
 have c6:=BX.cell npm hx
 have f6:=ZaE BX npm hpm t2
 have BP:Zah (fun b=>b=pm) w6 (w6.setCell ⟨pm,1,none⟩ (.slice (some ⟨g,0,none⟩) (pts.length+1) c)):=(Zah.refl (fun b=>b=pm) w6).set (.inl rfl) _ _
 have BS:Zah (fun b=>x.ownBlock=some b∨b=pm) w (w6.setCell ⟨pm,1,none⟩ (.slice (some ⟨g,0,none⟩) (pts.length+1) c)):=(BX.mono (fun b _ e=>.inl e)).trans (BP.mono (fun b _ e=>.inr e))
 have hS:∀b,(x.ownBlock=some b∨b=pm)→Ty w b 175∨Ty w b 160:=fun b hb=>by
  rcases hb with hb|rfl
  ·exact .inl (ZaN t3 hb)
  ·exact .inr h.ty
 have t6:=h.ty.but BX npm
 have gl:=(own.lt g rfl).2
 have gpm:g≠pm:=(ZaN own rfl).ne t6 (by decide)
 have oth:∀k u,k≠1→w.cell? ⟨pm,k,none⟩=some u→(w6.setCell ⟨pm,1,none⟩ (.slice (some ⟨g,0,none⟩) (pts.length+1) c)).cell? ⟨pm,k,none⟩=some u:=fun k u hk hu=>by
  rw[World.cell?_setCell_other _ _ _ _ (by intro e;injection e with _ e2;exact hk e2.symm)]
  exact BX.cell npm hu
 have ns:∀{et rt:TypeId},et≠175→et≠160→rt≠175→rt≠160→∀b,(x.ownBlock=some b∨b=pm)→¬Ty w b et∧¬Ty w b rt:=fun n1 n2 n3 n4 b hb=>by
  rcases hS b hb with q|q
  ·exact⟨fun h2=>h2.ne q n1 rfl,fun h2=>h2.ne q n3 rfl⟩
  ·exact⟨fun h2=>h2.ne q n2 rfl,fun h2=>h2.ne q n4 rfl⟩
 refine⟨c6,f6,fun b=>C b∨b=g,⟨fun b hb=>?_,.inl h.cpm,?_,oth 0 _ (by decide) h.c0,⟨.slice (some ⟨g,0,none⟩) (pts.length+1) c,World.cell?_setCell_same _ _ _ c6,by rw[World.frozen?_setCell];exact f6,?_,fun b hb=>by cases hb;exact .inr rfl⟩,⟨ga,ca,oth 2 _ (by decide) a1,(a2.but BS (ns (by decide) (by decide) (by decide) (by decide))).mono (fun b hb=>.inl hb)⟩,gt,ct,oth 3 _ (by decide) b1,(b2.but BS (ns (by decide) (by decide) (by decide) (by decide))).mono (fun b hb=>.inl hb)⟩,BS.mono (fun b _ hb=>?_),fun b hb=>?_⟩
 ·rcases hb with hb|rfl
  ·exact⟨(h.low b hb).1,Nat.lt_of_lt_of_le (h.low b hb).2 BS.size⟩
  ·exact⟨(own.lt b rfl).1,by simpa using gl⟩
 ·obtain⟨cs,y,e⟩:=t6
  obtain⟨cs',e'⟩:=Zbk e 1 (.slice (some ⟨g,0,none⟩) (pts.length+1) c)
  exact⟨cs',y,e'⟩
 ·rw[List.length_append,List.map_append]
  exact Zam own (.inr (fun e=>by cases e;exact gpm rfl)) _
 ·rcases hb with hb|rfl
  ·exact t4 b hb
  ·exact h.cpm
 ·rcases hb with hb|rfl
  ·exact .inl hb
  ·rcases hg with e|e
   ·exact .inl (t4 b e)
   ·exact .inr e
theorem ZeJ.test_push {w w6:World}{C:Nat→Prop}{B0 pm:Nat}{an:Option Addr}{n cn:Nat}{at_:Nat→List Nat}{pts:List Nat}{tl:Nat→List (Int×Value)}(h:ZeJ w C B0 pm an n cn at_ pts tl){gt ct v g c:Nat}{z:Int×Value}{x:Value}{o:Obj}(ha:w.cell? ⟨pm,3,none⟩=some (.slice (some ⟨gt,0,none⟩) (n+1) ct))(hv:v<n+1)(hx:w.cell? ⟨gt,v,none⟩=some x)
  (own:w6.ownsRow B0 168 2 (.slice (some ⟨g,0,none⟩) ((tl v).length+1) c) ((tl v).length+1) (Zfm (tl v)++[.int .i64 z.1,z.2])) (q:(w.alloc o).grownBy w6 x.ownBlock) (hg:x.ownBlock=some g∨w.heap.size≤g):
  w6.cell? ⟨gt,v,none⟩=some x∧w6.frozen? ⟨gt,v,none⟩=false∧∃C',ZeJ (w6.setCell ⟨gt,v,none⟩ (.slice (some ⟨g,0,none⟩) ((tl v).length+1) c)) C' B0 pm an n cn at_ pts (Zf5 tl v (tl v++[z]))∧ZeU C C' w (w6.setCell ⟨gt,v,none⟩ (.slice (some ⟨g,0,none⟩) ((tl v).length+1) c)):=by
 obtain⟨tv,t1,t2,t3,t4⟩:=h.tries
 obtain⟨ga,ca,a1,a2⟩:=h.at_
 obtain⟨gt',ct',b1,b2⟩:=h.tests
 rw[ha] at b1
 cases b1
 obtain⟨c6,f6,cx,LS⟩:=b2.push (by decide) hv hx own q hg
 have BS:Zah (fun b=>x.ownBlock=some b∨b=gt) w (w6.setCell ⟨gt,v,none⟩ (.slice (some ⟨g,0,none⟩) ((tl v).length+1) c)):=(((Zah.refl _ w).alloc o).grown q (fun b e=>.inl (.inl e))).set (.inl (.inr rfl)) _ _
 have hS:∀b,(x.ownBlock=some b∨b=gt)→Ty w b 168∨Ty w b 201:=fun b hb=>by
  rcases hb with hb|rfl
  ·exact .inl (cx b hb).2
  ·exact .inr b2.ty
 have nt:∀{b t},Ty w b t→t≠168→t≠201→¬(x.ownBlock=some b∨b=gt):=fun ht n1 n2 q=>by
  rcases hS _ q with q|q
  ·exact ht.ne q n1 rfl
  ·exact ht.ne q n2 rfl
 have npm:=nt h.ty (by decide) (by decide)
 have hpm:=h.ty.lt
 have gl:=(own.lt g rfl).2
 have CC:∀b,(x.ownBlock=some b∨b=gt)→C b:=fun b hb=>by
  rcases hb with hb|rfl
  ·exact(cx b hb).1
  ·exact b2.cga
 refine⟨c6,f6,fun b=>C b∨b=g,⟨fun b hb=>?_,.inl h.cpm,h.ty.but BS npm,BS.cell npm h.c0,⟨tv,BS.cell npm t1,ZaE BS npm hpm t2,BS.own t3 (fun b hb=>nt (ZaN t3 hb) (by decide) (by decide)),fun b hb=>.inl (t4 b hb)⟩,⟨ga,ca,BS.cell npm a1,(a2.but BS (fun b hb=>?_)).mono (fun b hb=>.inl hb)⟩,gt,ct,BS.cell npm ha,?_⟩,BS.mono (fun b _ hb=>CC b hb),fun b hb=>?_⟩
 ·rcases hb with hb|rfl
  ·exact⟨(h.low b hb).1,Nat.lt_of_lt_of_le (h.low b hb).2 BS.size⟩
  ·exact⟨(own.lt b rfl).1,by simpa using gl⟩
 ·rcases hS b hb with q|q
  ·exact⟨fun h2=>q.ne h2 (by decide) rfl,fun h2=>q.ne h2 (by decide) rfl⟩
  ·exact⟨fun h2=>q.ne h2 (by decide) rfl,fun h2=>q.ne h2 (by decide) rfl⟩
 ·have e1:(Zf5 (fun v=>Zfm (tl v)) v (Zfm (tl v)++[.int .i64 z.1,z.2]))=fun u=>Zfm (Zf5 tl v (tl v++[z]) u):=by
   funext u
   unfold Zf5
   split
   ·rename_i e;subst e;simp[Zfm]
   ·rfl
  have e2:(Zf5 (fun v=>(tl v).length) v ((tl v).length+1))=fun u=>(Zf5 tl v (tl v++[z]) u).length:=by
   funext u
   unfold Zf5
   split
   ·rename_i e;subst e;simp
   ·rfl
  rw[e1,e2] at LS
  exact LS
 ·rcases hb with hb|rfl
  ·exact .inl hb
  ·rcases hg with e|e
   ·exact .inl (cx b e).1
   ·exact .inr e
