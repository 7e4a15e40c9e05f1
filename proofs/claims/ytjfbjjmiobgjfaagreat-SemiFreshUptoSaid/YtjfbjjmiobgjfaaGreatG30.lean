/- Rows.All and Rows.Each, of nil rows too; Base.Each. -/
import Derived.Test.YtjfbjjmiobgjfaaGreatG21
set_option maxRecDepth 100000
set_option maxHeartbeats 8000000
namespace Go.Proofs.YtjfbjjmiobgjfaaGreat
open ChangeShapes WideShapes ChangeAt RowKit Go.Shelf
attribute [local go_sem] Oper.semAt_some
theorem Zrl (lo:Nat)(pv pv2:Value)(rs:List (List ByteArray))(w:World)(HSET:Hid (∀W,Ext w W→Calls Tryz.prog 41 #[pv] W fun e w'=>e=.returned pv2∧w'=W))(HEACH:Hid (∀W,Ext w W→Calls Tryz.prog 42 #[pv2] W (ZiP lo rs W)))(hn:rs.length≤1000000)(hr:∀r∈rs,r.length≤1000000):
  Calls Tryz.prog 13 #[pv] w (ZiR rs w):=by
 obtain⟨i0,hi,hz0,hz1,hz2⟩:=info_parts Zcu
 refine(callsIn_wide (n:=5)).1 ?_
 refine callsIn_of_wp_marks Tryz.func13 rfl trivial ?_
 simp only[Tryz.ntmps13,List.size_toArray,List.length_cons,List.length_nil,Nat.reduceAdd,Nat.reduceSub,Array.replicate_succ,Array.replicate_zero,List.push_toArray,List.append_toArray,List.nil_append,List.cons_append]
 have E0:Hid (Ext w (w.alloc (.cells #[.slice none 0 0] 50))):=Zab (Below.refl _ w) _
 gi_wp2_with (first
  |(refine ⟨trivial,?_⟩;gi_at_call 41;refine(callsIn_wide.2 (HSET.out _ E0.out)).mono ?_;rintro e w1 ⟨rfl,hw1⟩;obtain rfl:=hw1.symm)
  |(refine ⟨trivial,?_⟩;gi_at_call 42;refine(callsIn_wide.2 (HEACH.out _ E0.out)).mono ?_;rintro e w2 ⟨bs,a2,c2,vs,rfl,hb1,hb2,hb3,hb4,hb5,hb6⟩))
 have sz0:(w.alloc (.cells #[.slice none 0 0] 50)).heap.size=w.heap.size+1:=by simp
 have hbx:=ZcL (Boxed.new w 50 (.slice none 0 0)) hb6
 have sz2:w.heap.size+1≤w2.heap.size:=by have:=hb6.size;omega
 have hE2:Ext w w2:=Zaa (Zab (Below.refl _ w) _) hb6
 have h1v:∀v∈vs,∃a m c,v=Value.slice a m c:=fun v hv=>by
  obtain⟨k,hk⟩:=List.mem_iff_getElem?.1 hv
  have hkl:=(zgs hk).1
  obtain⟨r,hrr⟩:∃r,rs[k]? =some r:=⟨_,zge (by have:=hb5.1;omega)⟩
  obtain⟨a,c,e,_⟩:=Zag (hb5.2 k r v hrr hk)
  exact⟨a,_,c,e⟩
 refine wpIn_rangeFunc_ownG (F:=Fence.wide) rfl (by omega) (gf:=125) (lb:=#[.pointer (some ⟨bs,0,none⟩)]) rfl trivial (enters_of Tryz.func125 (by kernel_rfl) rfl)
  (ZcK Fence.wide 4 trivial rfl (by omega) bs _ rs.length c2 a2 vs w2 hb4 h1v hn (fun b=>b=w.heap.size∨w2.heap.size≤b) (fun b e=>by have:=hb4.lt b e;omega) hb2 hb3) (fun h k=>h.trans k) (fun W l o o' hl _ _ _=>Zah.putObj W o' (.inr hl)) zbr (fun _=>rfl)
  (fun pre W=>Zc5 w2.heap.size w.heap.size (ZaM rs pre) W∧Zax lo W vs rs∧w2.heap.size≤W.heap.size∧Below w.heap.size w W)
  (fun _ _ _=>False)
  ?own
  (fun _ _ _ _ _ hs _ _=>hs)
  ⟨⟨[],none,0,hbx,World.ownsRow_nil _ _ _ _,rfl,fun i r v h=>by simp[ZaM] at h⟩,hb5.ext hb6,Nat.le_refl _,hE2⟩
  (fun x=>{tmps:=#[pv,undef,.slice none 0 0,.pointer (some ⟨w.heap.size,0,none⟩),vs[x.1]?.getD undef,pv,pv2,.func (.func 125) #[] #[.pointer (some ⟨bs,0,none⟩)],vs[x.1]?.getD undef,undef,undef,undef,undef,undef,undef],defers:=[]}) ?assign ?body ?done ?stop
 case own=>
  refine OwnFrom.and (Own.from (fun s A B row hs hg hr=>hs.keptN hg hr) _) (OwnFrom.and (Own.from (fun s A B row hs hg hr=>hs.keptN hg hr) _) (OwnFrom.and (fun s A B row hs hg hr=>Nat.le_trans hs hg.size) (ownFrom_below (Nat.le_refl _) (by omega))))
 case assign=>
  intro l x W K hK
  gi_wp2
  exact hK
 case body=>
  rintro l pre x W ⟨⟨us,a9,c9,bx9,row9,at9⟩,hvs,hsz,hE⟩ hlt
  obtain⟨r,hr1⟩:∃r,rs[x.1]? =some r:=⟨_,zge x.2⟩
  obtain⟨v,hv1⟩:∃v,vs[x.1]? =some v:=⟨_,zge (by rw[hvs.1];exact x.2)⟩
  have hrl:=hr r (zmg hr1)
  have ho1:=hvs.2 _ r v hr1 hv1
  obtain⟨a7,c7,rfl,_⟩:=Zag ho1
  have hpl:(ZaM rs pre).length=pre.length:=by simp[ZaM]
  have hv2:vs[x.1]?.getD undef=.slice a7 r.length c7:=by rw[hv1];rfl
  rw[hv2]
  obtain⟨qs,hqs⟩:∃qs,ZaM rs pre=qs:=⟨_,rfl⟩
  have HQS:Hid (ZaM rs (pre++[x])=qs++[r]):=by show _=_;rw[Zcl rs pre x hr1,hqs]
  rw[hqs] at bx9 row9 at9 hpl
  have CL:=zh (Ze4 r a7 r.length c7 W.drew (ZaL (ho1.drew) (Za4 ho1).1) (by omega) (ZaF ho1).2)
  have hc9:=bx9.cell
  have hBW:=bx9.lt
  have VS:=zh hvs
  have hql:qs.length≤1000000:=by omega
  clear hv2 hqs hvs hpl
  gi_wp2
  refine wpIn_region_any (by kernel_rfl) ?_
  change wpAnyIn _ _ _ _ _ _ _ _ _ (World.drew _)
  refine wpAnyIn_ready (rs:=[0,1]) (by kernel_rfl) (by simp) ?_
  refine(AllReadyIn.cons rfl (fun K hK=>?_) (AllReadyIn.cons rfl (fun K hK=>?_) AllReadyIn.nil))
  focus
   go_simp
   refine hK _ _ ?_
   clear hK K
   refine wpAnyIn_ready (rs:=[1]) (by kernel_rfl) (by simp) ?_
   refine(AllReadyIn.cons rfl (fun K hK=>?_) AllReadyIn.nil)
   focus
    go_simp
    refine hK _ _ ?_
    clear hK K
    refine wpAnyIn_ready (rs:=[2]) (by kernel_rfl) (by simp) ?_
    refine(AllReadyIn.cons rfl (fun K hK=>?_) AllReadyIn.nil)
    focus
     go_simp
     gi_wp2_with (refine ⟨trivial,?_⟩;gi_at_call 43;refine(CallsIn.inRound l (callsIn_wide.2 CL.out)).mono ?_;rintro e w7 ⟨a7',c7',rfl,q7,_,e7⟩;have hc7:=Zac e7 (show W.drew.cell? ⟨w.heap.size,0,none⟩=_ from hc9);have hc8:=fun o=>Zac (Zab (Below.refl _ w7) o) hc7)
     refine wpAnyIn_ready (rs:=[3]) (by kernel_rfl) (by simp) ?_
     refine(AllReadyIn.cons rfl (fun K hK=>?_) AllReadyIn.nil)
     focus
      go_simp
      refine hK _ _ ?_
      clear hK K
  rotate_left
  focus
   go_simp
   refine hK _ _ ?_
   clear hK K
   refine wpAnyIn_ready (rs:=[0,2]) (by kernel_rfl) (by simp) ?_
   refine(AllReadyIn.cons rfl (fun K hK=>?_) (AllReadyIn.cons rfl (fun K hK=>?_) AllReadyIn.nil))
   focus
    go_simp
    refine hK _ _ ?_
    clear hK K
    refine wpAnyIn_ready (rs:=[2]) (by kernel_rfl) (by simp) ?_
    refine(AllReadyIn.cons rfl (fun K hK=>?_) AllReadyIn.nil)
    focus
     go_simp
     gi_wp2_with (refine ⟨trivial,?_⟩;gi_at_call 43;refine(CallsIn.inRound l (callsIn_wide.2 CL.out)).mono ?_;rintro e w7 ⟨a7',c7',rfl,q7,_,e7⟩;have hc7:=Zac e7 (show W.drew.cell? ⟨w.heap.size,0,none⟩=_ from hc9);have hc8:=fun o=>Zac (Zab (Below.refl _ w7) o) hc7)
     refine wpAnyIn_ready (rs:=[3]) (by kernel_rfl) (by simp) ?_
     refine(AllReadyIn.cons rfl (fun K hK=>?_) AllReadyIn.nil)
     focus
      go_simp
      refine hK _ _ ?_
      clear hK K
   rotate_left
   focus
    go_simp
    gi_wp2_with (refine ⟨trivial,?_⟩;gi_at_call 43;refine(CallsIn.inRound l (callsIn_wide.2 CL.out)).mono ?_;rintro e w7 ⟨a7',c7',rfl,q7,_,e7⟩;have hc7:=Zac e7 (show W.drew.cell? ⟨w.heap.size,0,none⟩=_ from hc9);have hc8:=fun o=>Zac (Zab (Below.refl _ w7) o) hc7)
    refine wpAnyIn_ready (rs:=[0,3]) (by kernel_rfl) (by simp) ?_
    refine(AllReadyIn.cons rfl (fun K hK=>?_) (AllReadyIn.cons rfl (fun K hK=>?_) AllReadyIn.nil))
    focus
     go_simp
     refine hK _ _ ?_
     clear hK K
     refine wpAnyIn_ready (rs:=[3]) (by kernel_rfl) (by simp) ?_
     refine(AllReadyIn.cons rfl (fun K hK=>?_) AllReadyIn.nil)
     focus
      go_simp
      refine hK _ _ ?_
      clear hK K
    rotate_left
    focus
     go_simp
     refine hK _ _ ?_
     clear hK K
     refine wpAnyIn_ready (rs:=[0]) (by kernel_rfl) (by simp) ?_
     refine(AllReadyIn.cons rfl (fun K hK=>?_) AllReadyIn.nil)
     focus
      go_simp
      refine hK _ _ ?_
      clear hK K
  all_goals
   have bxW:=ZcL (ZcL bx9 (Zaf (Below.refl _ W))) e7
   have rowW:=Zar (Zar row9 (Zaf (Below.refl _ W))) e7
   have atW:=(at9.ext (Zaf (Below.refl _ W))).ext e7
   refine wpAnyIn_ready (rs:=[4]) (by kernel_rfl) (by simp) ?_
   refine AllReadyIn.cons rfl (fun K hK=>?_) AllReadyIn.nil
   refine Zfv rfl _ _ 50 rfl w2.heap.size 54 i0 (.slice none 0 0) 1 24 Tryz.underlying50 hi hz0 hz1 hz2 rfl (by decide) (.slice a9 qs.length c9) qs.length us rfl (rowW.alloc _) ⟨w7.heap.size,0,none⟩ 1 1 [.slice a7' r.length c7'] rfl rfl (cell_one_new _ _ _) (by simp[Value.oneCell']) (by unfold maxLen;omega) (by omega) (by have:=e7.size;simp at this ⊢;omega) ?_
   intro v' w1 hown' hgrow
   obtain⟨g',cap',rfl⟩:=ownsRow_succ hown'
   refine hK _ _ ?_
   clear hK K
   obtain⟨p1,p2,p3,p4,p5,p6⟩:=Zc5.push (n0:=w.heap.size) bxW rowW atW (Zao q7 (by simpa using hsz)) hown' hgrow (by omega) (Nat.le_refl _) (by have:=e7.size;simp at this;omega)
   have hc1:=p1.cell
   have hf1:=p1.frozen
   refine wpAnyIn_ready (rs:=[5]) (by kernel_rfl) (by simp) ?_
   refine AllReadyIn.cons rfl (fun K hK=>?_) AllReadyIn.nil
   go_simp
   refine hK _ _ ?_
   clear hK K
   refine wpAnyIn_done (by kernel_rfl) ?_ _
   have eD:Ext W w7:=Zaa (Zaf (Below.refl _ W)) e7
   gi_wp2
   exact⟨((KeepsOthers.ext eD).trans p3).from _,((Zah.refl _ W).ext eD).trans p5,by rw[HQS.out];exact p2,p6 _ _ _ (VS.out.ext eD),Nat.le_trans hsz (Nat.le_trans eD.size p5.size),hE.trans ((eD.mono (by have:=hE.size;omega)).trans p4)⟩
 case done=>
  rintro D ys W hD rfl ⟨⟨us,a9,c9,bx9,row9,at9⟩,hvs,hsz,hE⟩ hK
  rw[ZdD rs (Nat.le_refl _),List.take_length] at bx9 row9 at9
  have hc9:=bx9.cell
  gi_wp2
  refine⟨by simp,.inl ⟨_,_,rfl,run_takeDeferred hK,?_⟩⟩
  have hg:=grownBy_putObj' W D (.deferred none)
  have hr:∀r,some D=some r→∃o:Obj,W.heap[r]? =some o∧o.isCells=false:=fun r e=>by cases e;exact⟨_,hK,rfl⟩
  have at10:=at9.keptN hg hr
  exact⟨_,results_tmp rfl _ _ _,a9,c9,us,rfl,Zao (ZdC row9 hg hr) (by omega),⟨at10.1,fun i r v h1 h2=>Zao (at10.2 i r v h1 h2) (by omega)⟩,hE.trans (belowK_b (w:=w) (Nat.le_refl _) W D _ _ (by omega) hK rfl rfl)⟩
 case stop=>
  rintro D c pre W _ _ h _
  exact h.elim
theorem Zoc (w:World):Calls Tryz.prog 41 #[.pointer none] w fun e w'=>e=.returned (.pointer none)∧w'=w:=by
 go_enter Tryz.func41,Tryz.ntmps41
 go_wp2
 go_returns
 exact⟨rfl,rfl⟩
theorem Zp8 (w:World):Calls Tryz.prog 92 #[.pointer none] w fun e w'=>e=.returned (.slice none 0 0)∧w'=w:=by
 go_enter Tryz.func92,Tryz.ntmps92
 go_wp2
 go_returns
 exact⟨rfl,rfl⟩
theorem Zp9 (lo:Nat)(w:World):Calls Tryz.prog 42 #[.pointer none] w (ZiP lo [] w):=by
 have IT:=zh (Zp8 w)
 go_enter Tryz.func42,Tryz.ntmps42
 go_wp2_with (first
  |(go_at_call 92;(with_reducible refine IT.out.mono ?_);rintro e w1 ⟨rfl,hw1⟩;obtain rfl:=hw1.symm)
  |(go_at_call 91;(with_reducible refine(ZgH _ _ _ _).mono ?_);rintro e w2 ⟨rfl,hw2⟩;obtain rfl:=hw2.symm))
 go_returns
 exact⟨_,none,0,[],rfl,Nat.le_refl _,by simp,(Boxed.new _ _ _).cell,World.ownsRow_nil _ _ _ _,⟨rfl,fun i r v h=>by simp at h⟩,Zab zbr _⟩
def Zsk (w:World)(x:Option (Nat×Nat×List (List ByteArray)))(rs:List (List ByteArray)):Prop:=match x with
 |none=>rs=[]
 |some x=>Zay w (x.1+1) x.1 x.2.1 x.2.2∧rs=x.2.2
theorem Zrm (x:Option (Nat×Nat×List (List ByteArray)))(rs:List (List ByteArray))(w:World)(h:Zsk w x rs)(hn:rs.length≤1000000)(hr:∀r∈rs,r.length≤1000000):
  Calls Tryz.prog 13 #[Zmw x] w (ZiR rs w):=by
 cases x with
 |none=>
  obtain rfl:rs=[]:=h
  exact Zrl 0 (.pointer none) (.pointer none) [] w (fun W _=>Zoc W) (fun W _=>Zp9 0 W) hn hr
 |some x=>
  obtain⟨h1,rfl⟩:=h
  exact Zrl (x.1+1) _ _ x.2.2 w (fun W hW=>Zi6 _ x.1 x.2.1 x.2.2 W (h1.ext hW)) (fun W hW=>ZoO _ x.1 x.2.1 x.2.2 W (h1.ext hW) hn) hn hr
def ZiH (rs:List (List ByteArray))(w:World)(e:Ending)(w':World):Prop:=∃bs a c vs,e=.returned (.func (.func 125) #[] #[.pointer (some ⟨bs,0,none⟩)])∧w.heap.size≤bs∧bs<w'.heap.size∧w'.cell? ⟨bs,0,none⟩=some (.slice a rs.length c)∧w'.ownsRow w.heap.size 54 1 (.slice a rs.length c) rs.length vs∧Zax w.heap.size w' vs rs∧Ext w w'
theorem Zod (x:Option (Nat×Nat×List (List ByteArray)))(rs:List (List ByteArray))(w:World)(h:Zsk w x rs)(hn:rs.length≤1000000)(hr:∀r∈rs,r.length≤1000000):
  Calls Tryz.prog 101 #[Zmw x] w (ZiH rs w):=by
 have AL:=zh (Zrm x rs w h hn hr)
 generalize Zmw x=pv at AL ⊢
 clear h hn hr
 go_enter Tryz.func101,Tryz.ntmps101
 go_wp2_with (first
  |(go_at_call 13;(with_reducible refine AL.out.mono ?_);rintro e w1 ⟨a,c,us,rfl,h1,h2,h3⟩)
  |(go_at_call 91;(with_reducible refine(ZgH _ _ _ _).mono ?_);rintro e w2 ⟨rfl,hw2⟩;obtain rfl:=hw2.symm))
 go_returns
 exact⟨w1.heap.size,a,c,us,rfl,h3.size,by simp,(Boxed.new w1 _ _).cell,Zar h1 (Zab zbr _),h2.ext (Zab zbr _),Zab h3 _⟩
def Zan (f:ZaT)(k:ByteArray):List (List ByteArray):=match f k with
 |some x=>x.2.2
 |none=>[]
theorem Zoe (lo bb:Nat)(f:ZaT)(k:ByteArray)(w:World)(h:Zbo w lo bb f):
  Calls Tryz.prog 61 #[.pointer (some ⟨bb,0,none⟩),.string k] w (ZiH (Zan f k) w):=by
 have OF:=zh (ZuJ lo bb f k w h)
 have ER:=zh (Zod (f k) (Zan f k) w (by
  unfold Zsk Zan
  cases hf:f k with
  |none=>rfl
  |some x=>exact⟨(h.r.rel k x hf).2.1,rfl⟩) (by
  unfold Zan
  cases hf:f k with
  |none=>simp
  |some x=>have:=(h.r.rel k x hf).2.2.2.few;simp only;omega) (fun r hr=>by
  unfold Zan at hr
  cases hf:f k with
  |none=>rw[hf] at hr;simp at hr
  |some x=>
   rw[hf] at hr
   have h1:=((h.r.rel k x hf).2.2.2.row r hr).1
   have h2:=(h.r.rel k x hf).2.2.2.wide
   omega))
 clear h
 generalize Zmw (f k)=pv at OF ER
 go_enter Tryz.func61,Tryz.ntmps61
 go_wp2_with (first
  |(go_at_call 73;(with_reducible refine OF.out.mono ?_);rintro e w1 ⟨rfl,hw1⟩;obtain rfl:=hw1.symm)
  |(go_at_call 101;(with_reducible refine ER.out.mono ?_);rintro e w2 ⟨bs,a,c,vs,rfl,g⟩))
 go_returns
 exact⟨bs,a,c,vs,rfl,g⟩
