/- The walk of the matcher's put: a positive atom's trie. -/
import Derived.Test.YtjfbjjmiobgjfaaGreatG33
set_option maxRecDepth 100000
set_option maxHeartbeats 8000000
namespace Go.Proofs.YtjfbjjmiobgjfaaGreat
open ChangeShapes WideShapes ChangeAt RowKit
def Zsu (w:World)(s e:Nat)(P:World→Prop):Prop:=∀w2,Zah (fun b=>b<s∨e≤b) w w2→P w2
theorem Zsu.move {w w':World}{s e:Nat}{P:World→Prop}(h:Zsu w s e P){T:Nat→Prop}(b:Zah T w w')(hT:∀b,T b→b<s∨e≤b):Zsu w' s e P:=fun w2 h2=>h w2 ((b.mono fun b _ q=>hT b q).trans h2)
def atN (at_:Nat→List Nat)(vs:List Nat)(nt:Nat):Nat→List Nat:=fun v=>if v∈vs then at_ v++[nt] else at_ v
theorem Zqf {at_:Nat→List Nat}{vs:List Nat}{nt v:Nat}(h:v∉vs):Zf5 (atN at_ vs nt) v (atN at_ vs nt v++[nt])=atN at_ (vs++[v]) nt:=by
 funext u
 unfold Zf5 atN
 by_cases hu:u=v
 ·subst hu
  rw[if_pos rfl,if_neg h,if_pos (by simp)]
 ·rw[if_neg hu]
  by_cases h2:u∈vs
  ·rw[if_pos h2,if_pos (by simp[h2])]
  ·rw[if_neg h2,if_neg (by simp[h2,hu])]
def Zka (m:Nat):List Int:=(List.range m).map fun (i:Nat)=>(i:Int)
theorem ZbN.far {w w':World}{S C:Nat→Prop}{B0 ga n:Nat}{et rt:TypeId}{size:Nat}{ls:Nat→List Value}{ns:Nat→Nat}(h:ZbN w C B0 ga n et rt size ls ns)(e:Zah S w w')(hs:∀b,C b→¬S b):ZbN w' C B0 ga n et rt size ls ns:=by
 obtain⟨fv,h1,h2⟩:=h.each
 have hga:=hs ga h.cga
 exact⟨h.cga,h.ty.but e hga,fv,fun v hv=>⟨e.cell hga (h1 v hv).1,ZaE e hga (World.block_lt_of_cell? w ⟨ga,v,none⟩ (h1 v hv).1) (h1 v hv).2.1,e.own (h1 v hv).2.2.1 (fun b hb=>hs b ((h1 v hv).2.2.2 b hb)),(h1 v hv).2.2.2⟩,h2⟩
theorem ZeJ.far {w w':World}{S C:Nat→Prop}{B0 pm:Nat}{an:Option Addr}{n cn:Nat}{at_:Nat→List Nat}{pts:List Nat}{tl:Nat→List (Int×Value)}(h:ZeJ w C B0 pm an n cn at_ pts tl)(e:Zah S w w')(hs:∀b,C b→¬S b):ZeJ w' C B0 pm an n cn at_ pts tl:=by
 obtain⟨v,t1,t2,t3,t4⟩:=h.tries
 obtain⟨ga,ca,a1,a2⟩:=h.at_
 obtain⟨gt,ct,b1,b2⟩:=h.tests
 have hp:=hs pm h.cpm
 exact⟨fun b hb=>⟨(h.low b hb).1,Nat.lt_of_lt_of_le (h.low b hb).2 e.size⟩,h.cpm,h.ty.but e hp,e.cell hp h.c0,⟨v,e.cell hp t1,ZaE e hp h.ty.lt t2,e.own t3 (fun b hb=>hs b (t4 b hb)),t4⟩,⟨ga,ca,e.cell hp a1,a2.far e hs⟩,gt,ct,e.cell hp b1,b2.far e hs⟩
theorem Zay.but2 {w w':World}{lo pb ar:Nat}{rs:List (List ByteArray)}{S:Nat→Prop}(h:Zay w lo pb ar rs)(e:Zah S w w')(h1:¬S pb)(h2:∀g,ZaJ w pb=some g→¬S g)(h3:∀b,S b→b<lo∨¬Ty w b 9):Zay w' lo pb ar rs:=by
 obtain⟨a,c,vs,r1,r2,r3⟩:=h.row
 have ib:=Za6 r1
 refine⟨h.lt,e.cell h1 h.c0,e.cell h1 h.c2,ZaE e h1 (World.block_lt_of_cell? w ⟨pb,1,none⟩ r1) h.free,a,c,vs,e.cell h1 r1,e.own r2 (fun b hb=>h2 b (ib.trans hb)),fun i r v hr hv=>e.own (r3 i r v hr hv) (fun b hb hS=>?_)⟩
 rcases h3 b hS with q|q
 ·have:=((r3 i r v hr hv).lt b hb).1
  omega
 ·exact q (ZaN (r3 i r v hr hv) hb)
theorem Zsv (m:Nat):Zgf m (Zka m):=by
 intro i c hc
 unfold Zka at hc ⊢
 rw[List.getElem?_map] at hc
 obtain⟨j,hj,rfl⟩:=Option.map_eq_some_iff.1 hc
 have hj2:=(zgs hj)
 obtain⟨hi,e⟩:=hj2
 rw[List.getElem_range] at e
 subst e
 rw[List.length_range] at hi
 refine⟨by omega,by omega,?_⟩
 rw[←List.map_take,List.take_range]
 intro h
 obtain⟨x,hx,e⟩:=List.mem_map.1 h
 have:=List.mem_range.1 hx
 omega
theorem ZjD {m:Nat}{r:List ByteArray}(h:r.length=m):ZcF (Zka m) r=r:=by
 subst h
 unfold ZcF Zka
 rw[List.map_map]
 apply List.ext_getElem
 ·simp
 ·intro i h1 h2
  simp[zge h2]
theorem Zsw:(Tryz.prog.info? 175).map (fun i=>(i.zero,i.size,i.bytes))=some (some (.pointer none),1,8):=by kernel_rfl
def ZkH (C:Nat→Prop)(B0 pm:Nat)(an:Option Addr)(n cn:Nat)(at_:Nat→List Nat)(pts:List Nat)(tl:Nat→List (Int×Value))(vars:List Nat)(rs:List (List ByteArray))(w:World)(e:Ending)(w':World):Prop:=(∃v,e=.returned v)∧∃C' pt ways s d,ZeJ w' C' B0 pm an n cn (atN at_ vars pts.length) (pts++[pt]) tl∧ZeU C C' w w'∧ZcE vars.length ways∧(∀x,x∈ways↔x∈rs)∧ways.length≤rs.length∧w.heap.size≤s∧Zsu w' s d (fun W=>ZbV W pt vars.length ways)∧(∀b,C' b→b<s∨d≤b)∧d≤w'.heap.size
theorem ZrD (C:Nat→Prop)(B0 pm:Nat)(an:Option Addr)(n cn:Nat)(at_:Nat→List Nat)(pts:List Nat)(tl:Nat→List (Int×Value))(av:Option Addr)(cv pr:Nat)(w:World)(_:ZeJ w C B0 pm an n cn at_ pts tl):
  Calls Tryz.prog 103 #[.pointer (some ⟨pm,0,none⟩),.agg #[.slice av 0 cv,.pointer (some ⟨pr,0,none⟩)]] w fun e w'=>(∃v,e=.returned v)∧Ext w w':=by
 go_enter Tryz.func103,Tryz.ntmps103
 go_wp2
 exact bodyPost_ret (results_none rfl _ _ _) rfl ⟨⟨_,rfl⟩,Zab zbr _⟩
theorem Zua (C:Nat→Prop)(B0 pm:Nat)(an:Option Addr)(n cn:Nat)(at_:Nat→List Nat)(pts:List Nat)(tl:Nat→List (Int×Value))(vars:List Nat)(rs:List (List ByteArray))(av:Option Addr)(m cv pr s:Nat)(w:World)(h:ZeJ w C B0 pm an n cn at_ pts tl)(hv:w.ownsRow s 3 1 (.slice av m cv) m (vars.map ZhF))(hm:0<m)(hm64:m≤64)(hup:vars.Pairwise (·<·))(hlt:∀v∈vars,v<n)(hr:Zay w (pr+1) pr m rs)(hok:Zbs m rs)(hC:∀b,C b→b<s)(hpt:pts.length≤1000000)(hat:∀v,(at_ v).length≤1000000)(hsz:s≤pr)(hB:B0≤s):
  Calls Tryz.prog 103 #[.pointer (some ⟨pm,0,none⟩),.agg #[.slice av m cv,.pointer (some ⟨pr,0,none⟩)]] w (ZkH C B0 pm an n cn at_ pts tl vars rs w):=by
 obtain⟨j0,hj,yz0,yz1,yz2⟩:=info_parts ZgJ
 obtain⟨i0,hi,hz0,hz1,hz2⟩:=info_parts Zsw
 have H:=zh h
 have HVV:=zh hv
 have HUP:=zh hup
 have HLT:=zh hlt
 have HR:=zh hr
 have HOK:=zh hok
 have HC:=zh hC
 have HAT:=zh hat
 have HVL:Hid (vars.length=m):=by show _=_;have:=hv.1;simpa using this
 have hprl:pr<w.heap.size:=by
  obtain⟨_,_,_,q,_⟩:=hr.row
  exact World.block_lt_of_cell? w ⟨pr,1,none⟩ q
 clear h hv hup hlt hr hok hC hat
 obtain⟨w1,hw1⟩:∃w1,w1=w.alloc (.cells #[.slice av m cv,.pointer (some ⟨pr,0,none⟩)] 163):=⟨_,rfl⟩
 have E1:Hid (Ext w w1):=by show Ext _ _;rw[hw1];exact Zab zbr _
 have S1:Hid (w1.heap.size=w.heap.size+1):=by show _=_;rw[hw1];simp
 have c0:w1.cell? ⟨w.heap.size,0,none⟩=some (.slice av m cv):=by rw[hw1];go_simp
 have c1:w1.cell? ⟨w.heap.size,1,none⟩=some (.pointer (some ⟨pr,0,none⟩)):=by rw[hw1];go_simp
 obtain⟨wm,hmk,om,gm⟩:=run_make_full (P:=Tryz.prog) w1 w1.heap.size 161 3 j0 (.int .i64 0) 1 Tryz.underlying161 hj yz0 yz1 .i64 .i64 m (by rw[yz2];omega) (by unfold maxLen;omega) (Nat.le_refl _)
 have EM:Hid (Ext w1 wm):=⟨gm.os,gm.tape,gm.output,gm.size,fun i hi=>gm.block i hi (by simp)⟩
 have cm0:=Zac EM.out c0
 have cm1:=Zac EM.out c1
 have hm0:((m:Int)==0)=false:=by rw[ZgK];simp;omega
 have HW1:=zh hw1
 have OM:Hid (wm.ownsRow w1.heap.size 3 1 (.slice (some ⟨w1.heap.size,0,none⟩) m m) m ((List.replicate m 0).map ZhF)):=by
  show World.ownsRow _ _ _ _ _ _ _
  have e:(madeCells (Value.int .i64 0).cells (m*1)).toList=(List.replicate m 0).map ZhF:=by
   rw[Nat.mul_one,List.map_replicate]
   apply List.ext_getElem
   ·simp[madeCells]
   ·intro i h1 h2
    simp[madeCells,Value.cells,Nat.mod_one]
  rw[←e]
  exact om
 have MSZ:Hid (w1.heap.size<wm.heap.size):=(OM.out.lt _ rfl).2
 clear om gm hw1
 go_enter Tryz.func103,Tryz.ntmps103
 rw[HW1.out] at hmk
 go_wp2
 obtain⟨go,hgo⟩:∃go,w.heap.size+1=go:=⟨_,rfl⟩
 obtain⟨p3,hp3⟩:∃p3,w.heap.size=p3:=⟨_,rfl⟩
 have GO:Hid (w1.heap.size=go∧p3<go∧w.heap.size=p3):=by refine⟨by rw[S1.out];exact hgo,by omega,hp3⟩
 rw[hgo,hp3]
 rw[hp3] at cm0 cm1
 rw[GO.out.1] at OM MSZ
 have CM0:=zh cm0
 have CM1:=zh cm1
 clear hmk hgo hp3 HW1 cm0 cm1 c0 c1 hm0
 have PL:Hid (pm<w.heap.size):=H.out.ty.lt
 have CL:Hid (∀b,C b→b<s∧b<w.heap.size):=fun b hb=>⟨HC.out b hb,(H.out.low b hb).2⟩
 have WM0:Hid (ZeJ wm C B0 pm an n cn (atN at_ (vars.take 0) pts.length) pts tl):=by
  have:atN at_ (vars.take 0) pts.length=at_:=by funext v;unfold atN;simp
  show ZeJ _ _ _ _ _ _ _ _ _ _
  rw[this]
  exact H.out.ext (Zaa E1.out EM.out)
 have EWM:Hid (Ext w wm):=Zaa E1.out EM.out
 go_loopw [20] (fun u wj=>∃k:Nat,k≤m∧u=.int .i64 k∧∃C':Nat→Prop,ZeJ wj C' B0 pm an n cn (atN at_ (vars.take k) pts.length) pts tl∧Zah (fun b=>C b∨b=go) wm wj∧(∀b,C' b→C b∨wm.heap.size≤b)∧wj.ownsRow go 3 1 (.slice (some ⟨go,0,none⟩) m m) m (((List.range k)++List.replicate (m-k) 0).map ZhF)) (fun u _=>m-(intOf u).toNat)
 case atStart=>exact⟨0,by omega,rfl,C,WM0.out,Zah.refl _ _,fun _ h=>.inl h,OM.out⟩
 case round=>
  obtain⟨k,hk,rfl,C',hmb,hbt,hcc,hown⟩:=hrel
  have MB:=zh hmb
  have BT:=zh hbt
  have CC:=zh hcc
  have OW:=zh hown
  clear hmb hbt hcc hown
  have gol:=GO.out
  have mz:=MSZ.out
  have np3:¬(C p3∨p3=go):=fun q=>by
   rcases q with q|q
   ·have:=(CL.out p3 q).2;omega
   ·omega
  have d0:=BT.out.cell np3 CM0.out
  have d1:=BT.out.cell np3 CM1.out
  have nav:∀b,(Value.slice av m cv).ownBlock=some b→¬(C b∨b=go):=fun b hb q=>by
   have hl:=HVV.out.lt b hb
   rcases q with q|q
   ·have:=(CL.out b q).1;omega
   ·omega
  have HV2:=BT.out.own (Zar HVV.out EWM.out) nav
  by_cases hlt:k<m
  ·have hki:(k:Int)<(m:Int):=by omega
   obtain⟨vk,hvk⟩:∃vk,vars[k]? =some vk:=⟨_,zge (by rw[HVL.out];exact hlt)⟩
   have hvn:=HLT.out vk (zmg hvk)
   obtain⟨gv,hgv⟩:∃g,av=some ⟨g,0,none⟩:=by
    obtain⟨g,c',e,_⟩:=Za0 HVV.out hm
    cases e
    exact⟨g,rfl⟩
   subst hgv
   have hcv:wr.cell? ⟨gv,k,none⟩=some (.int .i64 (vk:Nat)):=by
    have h4:=HV2.cells (g:=gv) rfl k (ZhF vk) (by rw[List.getElem?_map,hvk];rfl)
    rwa [Addr.add_lit,Nat.zero_add] at h4
   have hgo1:wr.cell? ⟨go,k,none⟩=some (.int .i64 0):=by
    have h4:=OW.out.cells (g:=go) rfl k (ZhF 0) (by
     rw[List.getElem?_map,List.getElem?_append_right (by simp),List.length_range,Nat.sub_self,List.getElem?_replicate,if_pos (by omega)]
     rfl)
    rwa [Addr.add_lit,Nat.zero_add] at h4
   have hgo2:wr.frozen? ⟨go,k,none⟩=false:=OW.out.frozenAt _
   go_wp2
   have ngo:¬C' go:=fun q=>by
    rcases CC.out go q with q|q
    ·have:=(CL.out go q).2;omega
    ·omega
   have BG:Zah (fun b=>b=go) wr (wr.setCell ⟨go,k,none⟩ (.int .i64 (k:Nat))):=(Zah.refl (fun b=>b=go) wr).set (.inl rfl) _ _
   have MB2:=MB.out.far BG (fun b hb e=>by subst e;exact ngo hb)
   have OW2:Hid ((wr.setCell ⟨go,k,none⟩ (.int .i64 (k:Nat))).ownsRow go 3 1 (.slice (some ⟨go,0,none⟩) m m) m (((List.range (k+1))++List.replicate (m-(k+1)) 0).map ZhF)):=by
    have h4:=(OW.out.stored k (ZhF k)).1
    have e:((List.range k++List.replicate (m-k) 0).map ZhF).set k (ZhF k)=((List.range (k+1)++List.replicate (m-(k+1)) 0).map ZhF):=by
     rw[←List.map_set]
     congr 1
     rw[List.set_append_right _ _ (by simp),List.length_range,Nat.sub_self,List.range_succ,show m-k=(m-(k+1))+1 by omega,List.replicate_succ,List.set_cons_zero]
     simp
    rw[e] at h4
    exact h4
   have BT2:=BT.out.trans (BG.mono (fun b _ e=>.inr e))
   generalize wr.setCell ⟨go,k,none⟩ (.int .i64 (k:Nat))=W2 at MB2 OW2 BT2 BG ⊢
   have MD:=MB2.ext (Zaf (Below.refl _ W2))
   have hz2:wm.heap.size≤W2.heap.size:=BT2.size
   obtain⟨tv,t1,t2,t3,t4⟩:=MD.tries
   obtain⟨at9,ct9,rfl,_⟩:=Zag t3
   obtain⟨ga,ca,a1,a2⟩:=MD.at_
   obtain⟨fv,f1,_⟩:=a2.each
   obtain⟨x1,x2,x3,_⟩:=f1 vk hvn
   have hvn2:vk∉vars.take k:=fun hm=>by
    obtain⟨i,hi⟩:=List.mem_iff_getElem?.1 hm
    have hil:=(zgs hi).1
    rw[List.length_take] at hil
    rw[List.getElem?_take,if_pos (by omega)] at hi
    have:=List.pairwise_iff_getElem.1 HUP.out i k (by omega) (by rw[HVL.out];exact hlt) (by omega)
    obtain⟨_,e1⟩:=zgs hi
    obtain⟨_,e2⟩:=zgs hvk
    omega
   obtain⟨xv,hxv⟩:∃xv,fv vk=xv:=⟨_,rfl⟩
   rw[hxv] at x1 x3
   have eat:atN at_ (vars.take k) pts.length vk=at_ vk:=by unfold atN;rw[if_neg hvn2]
   obtain⟨fa,fc,e9,_⟩:=Zag x3
   subst e9
   have PUSHQ:Hid (∀g c w6,w6.ownsRow B0 3 1 (.slice (some ⟨g,0,none⟩) ((at_ vk).length+1) c) ((at_ vk).length+1) ((at_ vk).map ZhF++[ZhF pts.length])→(W2.drew.alloc (.cells #[.int .i64 (pts.length:Nat)] 3)).grownBy w6 (Value.slice fa (at_ vk).length fc).ownBlock→((Value.slice fa (at_ vk).length fc).ownBlock=some g∨W2.heap.size≤g)→w6.cell? ⟨pm,2,none⟩=some (.slice (some ⟨ga,0,none⟩) n ca)∧w6.cell? ⟨ga,vk,none⟩=some (.slice fa (at_ vk).length fc)∧w6.frozen? ⟨ga,vk,none⟩=false∧∃C2,ZeJ (w6.setCell ⟨ga,vk,none⟩ (.slice (some ⟨g,0,none⟩) ((at_ vk).length+1) c)) C2 B0 pm an n cn (atN at_ (vars.take (k+1)) pts.length) pts tl∧ZeU C' C2 W2.drew (w6.setCell ⟨ga,vk,none⟩ (.slice (some ⟨g,0,none⟩) ((at_ vk).length+1) c))):=fun g c w6 p1 p2 p3=>by
    have P:=MD.at_push (v:=vk) (z:=pts.length) (w6:=w6) (g:=g) (c:=c) (x:=.slice fa (atN at_ (vars.take k) pts.length vk).length fc) (o:=.cells #[.int .i64 (pts.length:Nat)] 3) a1 hvn x1
    rw[eat] at P
    have Q:=P p1 p2 p3
    rw[←eat,Zqf hvn2,eat,←ZaA hvk] at Q
    refine⟨?_,Q⟩
    rw[eat] at x3
    exact(((Zah.refl (fun b=>(Value.slice fa (at_ vk).length fc).ownBlock=some b) _).alloc _).grown p2 (fun b e=>.inl e)).cell (fun e=>(ZaN x3 e).ne MD.ty (by decide) rfl) a1
   rw[eat] at x1 x3
   have OWF:Hid (W2.drew.ownsRow B0 3 1 (.slice fa (at_ vk).length fc) (at_ vk).length (((at_ vk).map fun (n:Nat)=>(n:Int)).map Zm6)):=by
    show World.ownsRow _ _ _ _ _ _ _
    rw[List.map_map]
    exact x3
   have hvni:(vk:Int)<(n:Int):=by omega
   have hal:=HAT.out vk
   have hb2:B0≤W2.drew.heap.size:=by show B0≤W2.heap.size;have:=EWM.out.size;omega
   obtain⟨la,hla⟩:∃la,(at_ vk).length=la:=⟨_,rfl⟩
   have HLA:=zh hla
   rw[hla] at x1 PUSHQ OWF hal
   have x1o:=fun o=>Zac (Zab (Below.refl _ W2) o) (show W2.cell? _=_ from x1)
   have a1o:=fun o=>Zac (Zab (Below.refl _ W2) o) (show W2.cell? _=_ from a1)
   have t1o:=fun o=>Zac (Zab (Below.refl _ W2) o) (show W2.cell? _=_ from t1)
   clear hla x2 x3 f1 a2 t2 t3 t4 MD MB2 eat hxv hcv hgo1 hgo2
   have mixed:Tryz.prog.follows .mixedOrders=true:=by kernel_rfl
   go_region_law (first
    |(refine ZdU W2.drew (pts.length:Nat) B0 fa la fc ((at_ vk).map fun (n:Nat)=>(n:Int)) OWF.out hal hb2 (by rfl) _ _ (by rfl) (by rfl) (by rfl) ?_;intro g6 c6 w6 p1 p2 p4;obtain⟨u0,u1,u2,C2,M2,V2⟩:=PUSHQ.out g6 c6 w6 (by rw[List.map_map] at p1;exact p1) p2 (p4.imp id (fun e=>by rw[e];simp));have M2h:=zh M2;have V2h:=zh V2;clear p1 p2 p4 M2 V2)
    |fail)
   all_goals
    go_wp2
    go_roundw
    case rel=>
     refine⟨k+1,by omega,by go_num,C2,M2h.out,ZbO (BT2.ext (Zaf zbr)) V2h.out.1 (fun b hb=>(CC.out b hb).imp .inl id),fun b hb=>?_,V2h.out.1.own (Zar OW2.out (Zaf zbr)) (fun b e q=>by cases e;exact ngo q)⟩
     rcases V2h.out.2 b hb with q|q
     ·exact CC.out b q
     ·exact .inr (Nat.le_trans hz2 q)
    case measure=>simp[intOf];omega
  ·obtain rfl:k=m:=by omega
   have hge:¬(k:Int)<(k:Int):=by omega
   have hfull:vars.take k=vars:=List.take_of_length_le (by have:=HVL.out;omega)
   rw[hfull] at MB
   have TGO:Ty wm go 3:=ZaN OM.out rfl
   have hpl:pr<wm.heap.size:=Nat.lt_of_lt_of_le hprl EWM.out.size
   have HR2:Hid (Zay wr (pr+1) pr k rs):=((HR.out.ext EWM.out).but2 BT.out (fun q=>by
    rcases q with q|q
    ·have:=(CL.out pr q).1;omega
    ·omega) (fun g hg q=>by
    have h4:=((HR.out.ext EWM.out).item_ty hg)
    rcases q with q|q
    ·have:=(CL.out g q).1;have:=h4.2;omega
    ·subst q;exact h4.1.ne TGO (by decide) rfl) (fun b hb=>by
    rcases hb with q|q
    ·exact .inl (by have:=(CL.out b q).1;omega)
    ·subst q;exact .inr (fun h4=>h4.ne TGO (by decide) rfl)))
   have IO:Hid (ZdF wr (some ⟨go,0,none⟩) k (Zka k)):=by
    refine⟨by unfold maxLen;omega,by simp[Zka],fun i c hc=>⟨go,0,rfl,?_⟩⟩
    have h4:=OW.out.cells (g:=go) rfl i (.int .i64 c) (by
     rw[Nat.sub_self,List.replicate_zero,List.append_nil]
     unfold Zka at hc
     rw[List.getElem?_map] at hc ⊢
     obtain⟨j,hj,e⟩:=Option.map_eq_some_iff.1 hc
     rw[hj,←e]
     rfl)
    rw[Addr.add_lit,Nat.zero_add] at h4
    simpa [Zk5] using h4
   have BL:=zh (Zq3 (pr+1) pr k rs (Zka k) (some ⟨go,0,none⟩) k k wr HR2.out (by have:=HOK.out.few;omega) (fun r hr=>(HOK.out.row r hr).1) hm64 IO.out (Nat.le_refl _))
   obtain⟨tv,t1,t2,t3,t4⟩:=MB.out.tries
   obtain⟨at9,ct9,e9,_⟩:=Zag t3
   subst e9
   have TOWN:Hid (∀w5,Ext wr w5→w5.cell? ⟨pm,1,none⟩=some (.slice at9 pts.length ct9)∧w5.ownsRow B0 175 1 (.slice at9 pts.length ct9) pts.length (pts.map Zi2)∧B0≤w5.heap.size):=fun w5 e5=>⟨Zac e5 t1,Zar t3 e5,by have:=e5.size;have:=BT.out.size;have:=EWM.out.size;omega⟩
   clear t1 t2 t3 t4 hfull
   go_wp2_with (first
    |(go_at_call 131;(with_reducible refine BL.out.mono ?_);rintro e w5 (⟨hn0,_⟩|⟨_,pt,ways,rfl,hp1,hp2,hp3,e5,hw1,hw2,hw3⟩);(exact absurd (Zsv k) hn0);obtain⟨o1,o2,o3⟩:=TOWN.out w5 e5;have o1o:=fun o=>Zac (Zab (Below.refl _ w5) o) o1)
    |(at_builtin;go_loud (refine wpList_append_lies _ rfl _ _ 156 rfl B0 175 i0 (.pointer none) 1 8 Tryz.underlying156 hi hz0 hz1 hz2 rfl (by decide) (.slice at9 pts.length ct9) pts.length (pts.map Zi2) rfl (o2.alloc _) ⟨w5.heap.size,0,none⟩ 1 1 [Zi2 pt] rfl rfl (Zgt _ _ _) (fun x hx=>by cases List.mem_singleton.1 hx;rfl) (Nat.zero_lt_one) (by unfold maxLen;omega) (by omega) (Za3 o3) _ rfl ?_);intro g7 p7 w7 own7 q7 hat7 hlt7;obtain⟨u1,u2,C2,M2,V2⟩:=(MB.out.ext e5).try_push (pt:=pt) o1 own7 q7 (hat7.imp id (fun e=>by rw[e];simp))))
   go_end0
   have low':∀b,C' b→b<wr.heap.size:=fun b hb=>(MB.out.low b hb).2
   have hbig:w.heap.size≤wm.heap.size:=EWM.out.size
   have hbig2:wm.heap.size≤wr.heap.size:=BT.out.size
   have BW:Zah C w wr:=ZbO ((Zah.refl C w).ext EWM.out) BT.out (fun b hb=>by
    rcases hb with q|q
    ·exact .inl q
    ·exact .inr (by omega))
   refine⟨⟨_,rfl⟩,C2,pt,ways,wr.heap.size,w5.heap.size,M2,⟨ZbO (BW.ext e5) V2.1 (fun b hb=>(CC.out b hb).imp id (fun q=>by omega)),fun b hb=>?_⟩,?_,fun x=>?_,hw3,by omega,?_,fun b hb=>?_,V2.1.size⟩
   ·rcases V2.2 b hb with q|q
    ·exact(CC.out b q).imp id (fun q=>by omega)
    ·exact .inr (by have:=e5.size;omega)
   ·rw[HVL.out]
    have:(Zka k).length=k:=by simp[Zka]
    rw[this] at hw1
    exact hw1
   ·rw[hw2 x]
    constructor
    ·rintro⟨r,hr,e⟩
     rw[ZjD (HOK.out.row r hr).1] at e
     rw[←e]
     exact hr
    ·intro hx
     exact⟨x,hx,ZjD (HOK.out.row x hx).1⟩
   ·have this:(Zka k).length=vars.length:=by rw[HVL.out];simp[Zka]
    rw[this] at hp3
    refine Zsu.move (w:=w5) (fun w2 h2=>hp3 w2 (h2.mono fun b hb q=>by rcases q with q|q;exact q;omega)) V2.1 (fun b hb=>.inl (low' b hb))
   ·rcases V2.2 b hb with q|q
    ·exact .inl (low' b q)
    ·exact .inr q
open K (ZaG Zda ZaQ Zaq Zbl ZaR Zbw Zcm)
theorem ZiK {k:Int}{out:List ByteArray}{t:ZaG}(h:out.Nodup):(Zak k out t).Nodup:=by
 unfold Zak
 split
 ·rename_i hc
  rw[List.nodup_append]
  refine⟨h,by simp,fun a ha b hb e=>?_⟩
  simp at hb
  subst hb
  subst e
  exact hc.2.2 ha
 ·exact h
theorem ZiL {k:Int}(ts:List ZaG):∀{out:List ByteArray},out.Nodup→(ts.foldl (Zak k) out).Nodup:=by
 induction ts with
 |nil=>intro out h;exact h
 |cons t ts ih=>intro out h;exact ih (ZiK h)
theorem ZaI (r:ZaQ):(Zad r).Nodup:=by
 unfold Zad
 suffices ∀(ls:List K.Lit) (out:List ByteArray),out.Nodup→(ls.foldl Zb4 out).Nodup from this _ _ List.nodup_nil
 intro ls
 induction ls with
 |nil=>intro out h;exact h
 |cons l ls ih=>intro out h;exact ih _ (ZiL _ h)
theorem ZkI (k:Int)(out:List ByteArray)(t:ZaG)(x:ByteArray):x∈Zak k out t↔x∈out∨(k=1∧t.kind=1∧x=t.text):=by
 unfold Zak
 split
 ·rename_i h
  rw[List.mem_append,List.mem_singleton]
  exact⟨fun q=>q.imp id (fun e=>⟨h.1,h.2.1,e⟩),fun q=>q.imp id (fun e=>e.2.2)⟩
 ·rename_i h
  refine⟨.inl,fun q=>q.elim id (fun e=>?_)⟩
  by_cases hx:t.text∈out
  ·rw[e.2.2]
   exact hx
  ·exact absurd ⟨e.1,e.2.1,hx⟩ h
theorem ZkJ (k:Int)(ts:List ZaG)(x:ByteArray):∀out:List ByteArray,x∈ts.foldl (Zak k) out↔x∈out∨(k=1∧∃t∈ts,t.kind=1∧x=t.text):=by
 induction ts with
 |nil=>intro out;simp
 |cons t ts ih=>
  intro out
  rw[List.foldl_cons,ih,ZkI]
  constructor
  ·rintro ((h|⟨h1,h2,h3⟩)|⟨h1,t',ht',h2,h3⟩)
   ·exact .inl h
   ·exact .inr ⟨h1,t,by simp,h2,h3⟩
   ·exact .inr ⟨h1,t',by simp[ht'],h2,h3⟩
  ·rintro (h|⟨h1,t',ht',h2,h3⟩)
   ·exact .inl (.inl h)
   ·rcases List.mem_cons.1 ht' with rfl|ht'
    ·exact .inl (.inr ⟨h1,h2,h3⟩)
    ·exact .inr ⟨h1,t',ht',h2,h3⟩
theorem Zg8 (r:ZaQ)(x:ByteArray):x∈Zad r↔∃l∈r.body,l.kind=1∧Zf2 x∈l.atom.terms:=by
 unfold Zad
 suffices ∀(ls:List K.Lit) (out:List ByteArray),x∈ls.foldl Zb4 out↔x∈out∨∃l∈ls,l.kind=1∧Zf2 x∈l.atom.terms by simpa using this r.body []
 intro ls
 induction ls with
 |nil=>intro out;simp
 |cons l ls ih=>
  intro out
  rw[List.foldl_cons,ih]
  unfold Zb4
  rw[ZkJ]
  have hv:(∃t∈l.atom.terms,t.kind=1∧x=t.text)↔Zf2 x∈l.atom.terms:=by
   constructor
   ·rintro⟨t,h1,h2,h3⟩
    have:Zf2 x=t:=by
     obtain⟨k,s⟩:=t
     unfold Zf2
     simp only at h2 h3
     rw[h2,h3]
    rw[this]
    exact h1
   ·exact fun h=>⟨_,h,rfl,rfl⟩
  rw[hv]
  constructor
  ·rintro ((h|⟨h1,h2⟩)|⟨l',h1,h2⟩)
   ·exact .inl h
   ·exact .inr ⟨l,by simp,h1,h2⟩
   ·exact .inr ⟨l',by simp[h1],h2⟩
  ·rintro (h|⟨l',h1,h2⟩)
   ·exact .inl (.inl h)
   ·rcases List.mem_cons.1 h1 with rfl|h1
    ·exact .inl (.inr h2)
    ·exact .inr ⟨l',h1,h2⟩
theorem Zoq {xs:List ByteArray}{i:Nat}(h:i<xs.length):xs[i]? =some (gt xs i):=by
 unfold gt
 rw[zge h]
 rfl
theorem ZbT {names:List ByteArray}{ts:List ZaG}{v:Nat}:v∈ZaC names ts↔v<names.length∧Zf2 (gt names v)∈ts:=by
 unfold ZaC Zdv
 rw[List.mem_filter,List.mem_range,decide_eq_true_eq]
theorem Zeu (names:List ByteArray)(ts:List ZaG):(ZaC names ts).Pairwise (·<·):=by
 unfold ZaC Zdv
 exact List.Pairwise.filter _ List.pairwise_lt_range
theorem ZjE {α:Type}[DecidableEq α]:∀(l:List α),l.Nodup→∀{l':List α},(∀x∈l,x∈l')→l.length≤l'.length
 |[],_,_,_=>Nat.zero_le _
 |x::l,h,l',hs=>by
  obtain⟨h1,h2⟩:=List.nodup_cons.1 h
  have hx:=hs x (by simp)
  have:=ZjE l h2 (l':=l'.erase x) (fun y hy=>by
   have hne:y≠x:=fun e=>h1 (e ▸ hy)
   exact(List.mem_erase_of_ne hne).2 (hs y (by simp[hy])))
  rw[List.length_erase_of_mem hx] at this
  have hp:=List.length_pos_of_mem hx
  simp
  omega
theorem Zfn {names:List ByteArray}(hn:names.Nodup)(ts:List ZaG):(ZaC names ts).length≤ts.length:=by
 have h1:((ZaC names ts).map fun v=>Zf2 (gt names v)).Nodup:=by
  rw[List.Nodup,List.pairwise_map]
  refine(Zeu names ts).imp_of_mem (fun {a b} ha hb hab e=>?_)
  have e2:gt names a=gt names b:=by
   unfold Zf2 at e
   injection e
  have ha0:=(ZbT.1 ha).1
  have hb0:=(ZbT.1 hb).1
  have q:=List.pairwise_iff_getElem.1 hn a b ha0 hb0 hab
  have ha1:=Zoq ha0
  have hb1:=Zoq hb0
  rw[zge ha0] at ha1
  rw[zge hb0] at hb1
  exact q ((Option.some.inj ha1).trans (e2.trans (Option.some.inj hb1).symm))
 have h2:=ZjE _ h1 (l':=ts) (fun x hx=>by
  obtain⟨v,hv,rfl⟩:=List.mem_map.1 hx
  exact(ZbT.1 hv).2)
 simpa using h2
theorem ZlK (ts:List JT)(t:JT):atv (ts++[t])=atN (atv ts) t.vars ts.length:=by
 funext v
 unfold atN atv
 rw[List.length_append,List.length_singleton,List.range_succ,List.filter_append]
 have e:(List.range ts.length).filter (fun i=>match (ts++[t])[i]? with|some t=>decide (v∈t.vars)|none=>false)=(List.range ts.length).filter (fun i=>match ts[i]? with|some t=>decide (v∈t.vars)|none=>false):=by
  refine List.filter_congr fun i hi=>?_
  rw[List.getElem?_append_left (List.mem_range.1 hi)]
 refine(congrArg (·++_) (show _=_ from e)).trans ?_
 by_cases h:v∈t.vars
 ·rw[if_pos h]
  simp[h]
  rfl
 ·rw[if_neg h]
  simp[h]
  rfl
open ChangeShapes WideShapes ChangeAt RowKit Go.Shelf
section
variable {P:Program} {ops:Array Oper} {Q:Exit→Act→World→Prop} {md:Region.Mode} {S:World→Prop} {st:Nat}
def Zdw (P:Program)(md:Region.Mode)(ops:Array Oper)(Q:Exit→Act→World→Prop)(S:World→Prop)(st:Nat):Nat→Array Bool→Act→World→Prop
 |0,listed,a,w=>Region.ready md ops listed=[]∧Q .normal a w
 |fuel+1,listed,a,w=>
  (Region.ready md ops listed=[]→Q .normal a w)∧
  ∀i∈Region.ready md ops listed,wpOp P ops Q i (fun a' w'=>(i≠st→S w')∧Zdw P md ops Q S st fuel (listed.setIfInBounds i true) a' w') a w
theorem Zg9:∀(fuel:Nat) (listed:Array Bool) (a:Act) (w:World),Zdw P md ops Q S st fuel listed a w→wpAny P md ops Q fuel listed a w
 |0,_,_,_,h=>h
 |fuel+1,_,_,_,h=>⟨h.1,fun i hi=>wpOp_mono (fun a' w' h'=>Zg9 fuel _ a' w' h'.2) (h.2 i hi)⟩
theorem ZmO {i:Nat}{oi:Oper}{v:Value}(hi:ops[i]? =some oi)(hsel:∀(j:Nat) (o:Oper) cs b,ops[j]? =some o→o.op≠.select cs b)
  (hQ:∀c a w,Q (.panic c) (a.put oi.dst v) w→Q (.panic c) a w) (hst:∀o,ops[st]? =some o→∃e∈o.after,Region.binds md e=true∧e.on=i):
  ∀(fuel:Nat) (listed:Array Bool) (a:Act) (w:World),
   (∀j oj,ops[j]? =some oj→j≠i→listed.getD j true=false→(∀e∈oj.after,Region.binds md e=true→e.on≠i)→oi.apart ops oj=true)→
   i∈Region.ready md ops listed→YieldsIf P ops S oi v a→S w→
   Zdw P md ops Q S st fuel (listed.setIfInBounds i true) (a.put oi.dst v) w→Zdw P md ops Q S st (fuel+1) listed a w:=by
 intro fuel
 induction fuel with
 |zero=>
  intro listed a w _ hr hy hS H
  refine⟨fun h=>(by rw[h] at hr;cases hr),fun j hj=>?_⟩
  by_cases hji:j=i
  ·subst hji;exact hy.wpOp hi hS ⟨fun _=>hS,H⟩
  ·have:=ready_mono hj hji
   rw[H.1] at this
   cases this
 |succ fuel ih=>
  intro listed a w hfree hr hy hS H
  refine⟨fun h=>(by rw[h] at hr;cases hr),fun j hj=>?_⟩
  by_cases hji:j=i
  ·subst hji;exact hy.wpOp hi hS ⟨fun _=>hS,H⟩
  ·have h1:=H.2 j (ready_mono hj hji)
   obtain⟨hjun,oj,hoj,hall⟩:=mem_ready.1 hj
   have hnot:∀e∈oj.after,Region.binds md e=true→e.on≠i:=fun e he hb heq=>by
    have h1:=hall e he hb
    have h0:=(mem_ready.1 hr).1
    rw[heq] at h1
    rcases Nat.lt_or_ge i listed.size with h'|h'
    ·simp[h'] at h0 h1;rw[h0] at h1;cases h1
    ·simp[Array.getElem?_eq_none h'] at h1
   have hjst:j≠st:=by
    rintro rfl
    obtain⟨e,he,hb,hon⟩:=hst oj hoj
    exact hnot e he hb hon
   have h2:=wpOp_putIf hoj (hfree j oj hoj hji hjun hnot) (fun cs b=>hsel i oi cs b hi) (fun cs b=>hsel j oj cs b hoj) hQ hy h1
   have hfree':∀k ok,ops[k]? =some ok→k≠i→(listed.setIfInBounds j true).getD k true=false→
     (∀e∈ok.after,Region.binds md e=true→e.on≠i)→oi.apart ops ok=true:=fun k ok hk hki hun hno=>by
    refine hfree k ok hk hki ?_ hno
    by_cases hjk:j=k
    ·subst hjk;exact hjun
    ·rw[getD_set_ne true hjk] at hun;exact hun
   refine wpOp_mono (fun a' w' h3=>⟨fun _=>h3.2.1 hjst,ih (listed.setIfInBounds j true) a' w' hfree' (ready_mono hr (Ne.symm hji)) h3.1 (h3.2.1 hjst) ?_⟩) h2
   rw[Array.setIfInBounds_comm _ _ hji]
   exact h3.2.2
def Zub (md:Region.Mode)(ops:Array Oper)(st i:Nat):Bool:=match ops[st]? with
 |some o=>o.after.any fun e=>Region.binds md e&&e.on==i
 |none=>true
theorem ZaB {i:Nat}{oi:Oper}{v:Value}{fuel:Nat}{listed:Array Bool}{a:Act}{w:World}(hi:ops[i]? =some oi)
  (hs:Region.noSelect ops=true) (hf:Region.free md ops listed i=true) (hr:(Region.ready md ops listed).contains i=true) (hw:Zub md ops st i=true)
  (hQ:∀c a w,Q (.panic c) (a.put oi.dst v) w→Q (.panic c) a w) (hy:YieldsIf P ops S oi v a) (hS:S w)
  (h:Zdw P md ops Q S st fuel (listed.setIfInBounds i true) (a.put oi.dst v) w):Zdw P md ops Q S st (fuel+1) listed a w:=
 ZmO hi (Region.noSelect_spec hs) hQ (fun o ho=>by
  unfold Zub at hw
  rw[ho] at hw
  obtain⟨e,he,hb⟩:=Array.any_eq_true'.1 hw
  rw[Bool.and_eq_true] at hb
  exact⟨e,he,hb.1,by simpa using hb.2⟩) fuel listed a w (Region.free_spec hi hf) (by simpa using hr) hy hS h
theorem ZeV {listed:Array Bool}{a:Act}{w:World}(hr:Region.ready md ops listed=[])(h:Q .normal a w):
  ∀fuel,Zdw P md ops Q S st fuel listed a w
 |0=>⟨hr,h⟩
 |_+1=>⟨fun _=>h,by rw[hr];simp⟩
theorem ZcC {i:Nat}{o:Oper}{fuel:Nat}{listed:Array Bool}{a:Act}{w:World}(hr:Region.ready md ops listed=[i])(ho:ops[i]? =some o)
  (h:∀K':Act→World→Prop,Shut (∀a w,(i≠st→S w)→Zdw P md ops Q S st fuel (listed.setIfInBounds i true) a w→K' a w)→if Region.wanted o (yielded ops a.tmps)=true then Oper.wp P o a w K' Q else K' (a.put o.dst undef) w):Zdw P md ops Q S st (fuel+1) listed a w:=
 ⟨fun h0=>(by rw[hr] at h0;cases h0),fun j hj=>by
  rw[hr] at hj
  obtain rfl:=List.mem_singleton.1 hj
  exact wpOp_step ho (fun K' hK=>h K' (fun a w hS hW=>hK a w ⟨hS,hW⟩))⟩
theorem ZmP {i j:Nat}{o oj:Oper}{fuel:Nat}{listed:Array Bool}{a:Act}{w:World}(hr:Region.ready md ops listed=[i,j])(ho:ops[i]? =some o)(hoj:ops[j]? =some oj)
  (h:∀K':Act→World→Prop,Shut (∀a w,(i≠st→S w)→Zdw P md ops Q S st fuel (listed.setIfInBounds i true) a w→K' a w)→if Region.wanted o (yielded ops a.tmps)=true then Oper.wp P o a w K' Q else K' (a.put o.dst undef) w)
  (k:∀K':Act→World→Prop,Shut (∀a w,(j≠st→S w)→Zdw P md ops Q S st fuel (listed.setIfInBounds j true) a w→K' a w)→if Region.wanted oj (yielded ops a.tmps)=true then Oper.wp P oj a w K' Q else K' (a.put oj.dst undef) w):Zdw P md ops Q S st (fuel+1) listed a w:=
 ⟨fun h0=>(by rw[hr] at h0;cases h0),fun x hx=>by
  rw[hr] at hx
  rcases List.mem_cons.1 hx with rfl|hx
  ·exact wpOp_step ho (fun K' hK=>h K' (fun a w hS hW=>hK a w ⟨hS,hW⟩))
  ·obtain rfl:=List.mem_singleton.1 hx
   exact wpOp_step hoj (fun K' hK=>k K' (fun a w hS hW=>hK a w ⟨hS,hW⟩))⟩
theorem Zha {id:Nat}{a:Act}{w:World}(S:World→Prop)(st:Nat)(hm:P.follows .mixedOrders=true)(hS:S w.drew)
  (h:S w.drew→Zdw P .any ops Q S st ops.size (Array.replicate ops.size false) a w.drew):(Code.region id ops true).wp P Q a w:=
 wp_region_any hm (Zg9 _ _ _ _ (h hS))
end
set_option linter.unusedSimpArgs false
theorem Zor:(Tryz.prog.info? 161).map (fun i=>(i.zero,i.size,i.bytes))=some (some (.slice none 0 0),1,24):=by kernel_rfl
theorem ZmQ:(Tryz.prog.info? 201).map (fun i=>(i.zero,i.size,i.bytes))=some (some (.slice none 0 0),1,24):=by kernel_rfl
abbrev ZcR (names:List ByteArray)(f:ZaT)(l:K.Lit):List (List ByteArray):=Zbv names l.atom.terms (Zan f l.atom.pred)
def Zsx (names:List ByteArray)(f:ZaT)(l:K.Lit)(t:JT):Prop:=t.vars=ZaC names l.atom.terms∧∀x,x∈t.rows↔x∈ZcR names f l
theorem Zos {w3 w4 w5:World}{av:Option Addr}{n cv:Nat}(h:w4=w3.alloc (.cells #[.slice av n cv,.slice none 0 0,.slice none 0 0,.slice none 0 0] 160))(e:Ext w4 w5):
  Ty w5 w3.heap.size 160∧w5.cell? ⟨w3.heap.size,0,none⟩=some (.slice av n cv)∧(∀k,k=1∨k=2∨k=3→w5.cell? ⟨w3.heap.size,k,none⟩=some (.slice none 0 0))∧∀k,w5.frozen? ⟨w3.heap.size,k,none⟩=false:=by
 have hh:w4.heap[w3.heap.size]? =some (.cells #[.slice av n cv,.slice none 0 0,.slice none 0 0,.slice none 0 0] 160 (0,0)):=by
  rw[h]
  exact heap_alloc_new w3 _
 have hl:w3.heap.size<w4.heap.size:=(zag hh).1
 have hh5:=(e.block _ hl).trans hh
 refine⟨⟨_,_,hh5⟩,by simp[World.cell?,hh5],fun k hk=>?_,fun k=>by simp[World.frozen?,hh5]⟩
 rcases hk with rfl|rfl|rfl <;> simp[World.cell?,hh5]
theorem Zot {w3 w5 w7:World}{av:Option Addr}{n cv:Nat}{x:Value}(h1:Ty w5 w3.heap.size 160)(h2:w5.cell? ⟨w3.heap.size,0,none⟩=some (.slice av n cv))(h3:∀k,k=1∨k=2∨k=3→w5.cell? ⟨w3.heap.size,k,none⟩=some (.slice none 0 0))(h4:∀k,w5.frozen? ⟨w3.heap.size,k,none⟩=false)(e:Ext (w5.setCell ⟨w3.heap.size,2,none⟩ x) w7):
  w7.cell? ⟨w3.heap.size,0,none⟩=some (.slice av n cv)∧w7.cell? ⟨w3.heap.size,3,none⟩=some (.slice none 0 0)∧w7.frozen? ⟨w3.heap.size,3,none⟩=false:=by
 have hl:w3.heap.size<(w5.setCell ⟨w3.heap.size,2,none⟩ x).heap.size:=by simpa using h1.lt
 refine⟨Zac e ?_,Zac e ?_,(e.frozen (p:=⟨w3.heap.size,3,none⟩) hl).trans (by rw[World.frozen?_setCell];exact h4 3)⟩
 ·rw[World.cell?_setCell_other _ _ _ _ (by simp)]
  exact h2
 ·rw[World.cell?_setCell_other _ _ _ _ (by simp)]
  exact h3 3 (by simp)
theorem Zqg {w3 w4 w5 w7:World}{p:Nat}{av:Option Addr}{n cv:Nat}{x v:Value}(hp:p<w3.heap.size)(h:w3.cell? ⟨p,2,none⟩=some v)(h4:w4=w3.alloc (.cells #[.slice av n cv,.slice none 0 0,.slice none 0 0,.slice none 0 0] 160))(e5:Ext w4 w5)(e7:Ext (w5.setCell ⟨w3.heap.size,2,none⟩ x) w7):w7.cell? ⟨p,2,none⟩=some v∧¬w3.heap.size=p:=by
 refine⟨Zac e7 ?_,by omega⟩
 rw[World.cell?_setCell_other _ _ _ _ (by intro e;injection e with e;omega)]
 refine Zac e5 ?_
 rw[h4]
 exact Zac (Zab zbr _) h
theorem ZlL (n:Nat):(madeCells (Value.slice none 0 0).cells (n*1)).toList=List.replicate n (.slice none 0 0):=by
 rw[Nat.mul_one]
 apply List.ext_getElem
 ·simp[madeCells]
 ·intro i h1 h2
  simp[madeCells,Value.cells,Nat.mod_one]
theorem Zsy (W:World)(n:Nat)(hn:n≤1000000):∃wm,(Instr.makeSlice 157 (.int .i64 (n:Int)) (.int .i64 (n:Int))).run Tryz.prog W=.ok (.slice (some ⟨W.heap.size,0,none⟩) n n) wm∧wm.ownsRow W.heap.size 161 1 (.slice (some ⟨W.heap.size,0,none⟩) n n) n (List.replicate n (.slice none 0 0))∧Ext W wm:=by
 obtain⟨i0,hi,hz0,hz1,hz2⟩:=info_parts Zor
 obtain⟨wm,h1,h2,h3⟩:=run_make_full (P:=Tryz.prog) W W.heap.size 157 161 i0 (.slice none 0 0) 1 Tryz.underlying157 hi hz0 hz1 .i64 .i64 n (by rw[hz2];omega) (by unfold maxLen;omega) (Nat.le_refl _)
 rw[ZlL] at h2
 exact⟨wm,h1,h2,h3.os,h3.tape,h3.output,h3.size,fun i hi=>h3.block i hi (by simp)⟩
theorem Zqh (W:World)(n:Nat)(hn:n≤1000001):∃wm,(Instr.makeSlice 158 (.int .i64 (n:Int)) (.int .i64 (n:Int))).run Tryz.prog W=.ok (.slice (some ⟨W.heap.size,0,none⟩) n n) wm∧wm.ownsRow W.heap.size 201 1 (.slice (some ⟨W.heap.size,0,none⟩) n n) n (List.replicate n (.slice none 0 0))∧Ext W wm:=by
 obtain⟨i0,hi,hz0,hz1,hz2⟩:=info_parts ZmQ
 obtain⟨wm,h1,h2,h3⟩:=run_make_full (P:=Tryz.prog) W W.heap.size 158 201 i0 (.slice none 0 0) 1 Tryz.underlying158 hi hz0 hz1 .i64 .i64 n (by rw[hz2];omega) (by unfold maxLen;omega) (Nat.le_refl _)
 rw[ZlL] at h2
 exact⟨wm,h1,h2,h3.os,h3.tape,h3.output,h3.size,fun i hi=>h3.block i hi (by simp)⟩
theorem ZhX {w:World}{C:Nat→Prop}{B0 b0 ga n size:Nat}{et rt:TypeId}(h:w.ownsRow b0 rt 1 (.slice (some ⟨ga,0,none⟩) n n) n (List.replicate n (.slice none 0 0)))(hC:C ga):ZbN w C B0 ga n et rt size (fun _=>[]) (fun _=>0):=
 ⟨hC,ZaN h rfl,fun _=>.slice none 0 0,fun v hv=>⟨by
  have:=h.cells (g:=ga) rfl v (.slice none 0 0) (by rw[List.getElem?_replicate,if_pos hv])
  rwa [Addr.add_lit,Nat.zero_add] at this,h.frozenAt _,World.ownsRow_nil _ _ _ _,fun b e=>by cases e⟩,fun v v' _ _ _ b e=>by cases e⟩
def Zfo (w:World)(C:Nat→Prop)(B0:Nat)(ts:List JT)(pts:List Nat):Prop:=∀(i:Nat) (t:JT) (pt:Nat),ts[i]? =some t→pts[i]? =some pt→∃s d,B0≤s∧d≤w.heap.size∧Zsu w s d (fun W=>ZbV W pt t.vars.length t.rows)∧∀b,C b→b<s∨d≤b
theorem Zfo.ext {w w':World}{C:Nat→Prop}{B0:Nat}{ts:List JT}{pts:List Nat}(h:Zfo w C B0 ts pts)(e:Ext w w'):Zfo w' C B0 ts pts:=fun i t pt h1 h2=>by
 obtain⟨s,d,q1,q2,q3,q4⟩:=h i t pt h1 h2
 exact⟨s,d,q1,Nat.le_trans q2 e.size,q3.move (T:=fun _=>False) ((Zah.refl _ _).ext e) (fun _ q=>q.elim),q4⟩
theorem Zfo.mv {w w':World}{C C':Nat→Prop}{B0:Nat}{ts:List JT}{pts:List Nat}(h:Zfo w C B0 ts pts)(m:ZeU C C' w w'):Zfo w' C' B0 ts pts:=fun i t pt h1 h2=>by
 obtain⟨s,d,q1,q2,q3,q4⟩:=h i t pt h1 h2
 refine⟨s,d,q1,Nat.le_trans q2 m.1.size,q3.move m.1 q4,fun b hb=>?_⟩
 rcases m.2 b hb with q|q
 ·exact q4 b q
 ·exact .inr (Nat.le_trans q2 q)
theorem Zfo.snoc {w:World}{C:Nat→Prop}{B0:Nat}{ts:List JT}{pts:List Nat}(h:Zfo w C B0 ts pts)(hl:pts.length=ts.length){t:JT}{pt s d:Nat}(q1:B0≤s)(q2:d≤w.heap.size)(q3:Zsu w s d (fun W=>ZbV W pt t.vars.length t.rows))(q4:∀b,C b→b<s∨d≤b):Zfo w C B0 (ts++[t]) (pts++[pt]):=fun i t' pt' h1 h2=>by
 rcases Nat.lt_or_ge i ts.length with hi|hi
 ·rw[List.getElem?_append_left hi] at h1
  rw[List.getElem?_append_left (by omega)] at h2
  exact h i t' pt' h1 h2
 ·have hl1:=(zgs h1).1
  rw[List.length_append,List.length_singleton] at hl1
  obtain rfl:i=ts.length:=by omega
  rw[List.getElem?_append_right (Nat.le_refl _),Nat.sub_self] at h1
  rw[←hl,List.getElem?_append_right (Nat.le_refl _),Nat.sub_self] at h2
  cases h1
  cases h2
  exact⟨s,d,q1,q2,q3,q4⟩
theorem Zou {w3 w4 w5 w7 W:World}{B0:Nat}{av:Option Addr}{n cv:Nat}(hB:B0≤w3.heap.size)(h4:w4=w3.alloc (.cells #[.slice av n cv,.slice none 0 0,.slice none 0 0,.slice none 0 0] 160))(s4:w4.heap.size=w3.heap.size+1)(e5:Ext w4 w5)(o5:w5.ownsRow w4.heap.size 161 1 (.slice (some ⟨w4.heap.size,0,none⟩) n n) n (List.replicate n (.slice none 0 0)))(e7:Ext (w5.setCell ⟨w3.heap.size,2,none⟩ (.slice (some ⟨w3.heap.size+1,0,none⟩) n n)) w7)(o7:w7.ownsRow (w5.setCell ⟨w3.heap.size,2,none⟩ (.slice (some ⟨w3.heap.size+1,0,none⟩) n n)).heap.size 201 1 (.slice (some ⟨(w5.setCell ⟨w3.heap.size,2,none⟩ (.slice (some ⟨w3.heap.size+1,0,none⟩) n n)).heap.size,0,none⟩) (n+1) (n+1)) (n+1) (List.replicate (n+1) (.slice none 0 0)))(hW:W=w7.setCell ⟨w3.heap.size,3,none⟩ (.slice (some ⟨w5.heap.size,0,none⟩) (n+1) (n+1))):
  ∃C0,ZeJ W C0 B0 w3.heap.size av n cv (fun _=>[]) [] (fun _=>[])∧(∀b,C0 b→w3.heap.size≤b)∧Ext w3 W:=by
 obtain⟨F5,f50,f52,f53⟩:=Zos h4 e5
 have hz5:(w5.setCell ⟨w3.heap.size,2,none⟩ (.slice (some ⟨w3.heap.size+1,0,none⟩) n n)).heap.size=w5.heap.size:=by simp
 rw[hz5] at o7
 have z45:=e5.size
 have z7:w5.heap.size≤w7.heap.size:=by have:=e7.size;rw[hz5] at this;exact this
 have B5:Zah (fun b=>b=w3.heap.size) w5 (w5.setCell ⟨w3.heap.size,2,none⟩ (.slice (some ⟨w3.heap.size+1,0,none⟩) n n)):=(Zah.refl (fun b=>b=w3.heap.size) w5).set (.inl rfl) _ _
 have BW:Zah (fun b=>b=w3.heap.size) w7 W:=by rw[hW];exact(Zah.refl (fun b=>b=w3.heap.size) w7).set (.inl rfl) _ _
 have g2:(w5.setCell ⟨w3.heap.size,2,none⟩ (.slice (some ⟨w3.heap.size+1,0,none⟩) n n)).cell? ⟨w3.heap.size,2,none⟩=some (.slice (some ⟨w3.heap.size+1,0,none⟩) n n):=World.cell?_setCell_same _ _ _ (f52 2 (by simp))
 have g1:(w5.setCell ⟨w3.heap.size,2,none⟩ (.slice (some ⟨w3.heap.size+1,0,none⟩) n n)).cell? ⟨w3.heap.size,1,none⟩=some (.slice none 0 0):=by
  rw[World.cell?_setCell_other _ _ _ _ (by simp)]
  exact f52 1 (by simp)
 obtain⟨F70,F73,f73⟩:=Zot F5 f50 f52 f53 e7
 have oW:∀k u,k≠3→w7.cell? ⟨w3.heap.size,k,none⟩=some u→W.cell? ⟨w3.heap.size,k,none⟩=some u:=fun k u hk hu=>by
  rw[hW,World.cell?_setCell_other _ _ _ _ (by intro e;injection e with _ e;exact hk e.symm)]
  exact hu
 have t5:Ty (w5.setCell ⟨w3.heap.size,2,none⟩ (.slice (some ⟨w3.heap.size+1,0,none⟩) n n)) w3.heap.size 160:=by
  obtain⟨cs,x,q⟩:=F5
  obtain⟨cs',q'⟩:=Zbk q 2 (.slice (some ⟨w3.heap.size+1,0,none⟩) n n)
  exact⟨cs',x,q'⟩
 have t7:=t5.ext e7
 have hl5:w3.heap.size<w5.heap.size:=by omega
 have o5':w7.ownsRow w4.heap.size 161 1 (.slice (some ⟨w4.heap.size,0,none⟩) n n) n (List.replicate n (.slice none 0 0)):=Zar (B5.own o5 (fun b e q=>by have e1:some w4.heap.size=some b:=e;cases e1;omega)) e7
 have ow5:=BW.own o5' (fun b e q=>by have e1:some w4.heap.size=some b:=e;cases e1;omega)
 have ow7:=BW.own o7 (fun b e q=>by have e1:some w5.heap.size=some b:=e;cases e1;omega)
 refine⟨fun b=>b=w3.heap.size∨b=w4.heap.size∨b=w5.heap.size,⟨fun b hb=>?_,.inl rfl,?_,oW 0 _ (by decide) F70,⟨_,oW 1 _ (by decide) (Zac e7 g1),?_,World.ownsRow_nil _ _ _ _,fun b e=>by cases e⟩,⟨w4.heap.size,n,?_,ZhX ow5 (.inr (.inl rfl))⟩,w5.heap.size,n+1,?_,ZhX ow7 (.inr (.inr rfl))⟩,fun b hb=>?_,?_⟩
 ·have:=ow5.lt _ rfl
  have:=ow7.lt _ rfl
  have:=BW.size
  rcases hb with rfl|rfl|rfl <;> omega
 ·obtain⟨cs,x,q⟩:=t7
  obtain⟨cs',q'⟩:=Zbk q 3 (.slice (some ⟨w5.heap.size,0,none⟩) (n+1) (n+1))
  rw[hW]
  exact⟨cs',x,q'⟩
 ·rw[hW,World.frozen?_setCell]
  exact(e7.frozen (p:=⟨w3.heap.size,1,none⟩) t5.lt).trans (by rw[World.frozen?_setCell];exact f53 1)
 ·rw[s4]
  exact oW 2 _ (by decide) (Zac e7 g2)
 ·rw[hW]
  exact World.cell?_setCell_same _ _ _ F73
 ·rcases hb with rfl|rfl|rfl <;> omega
 ·have e4:Ext w3 w4:=by rw[h4];exact Zab zbr _
  have e35:Ext w3 (w5.setCell ⟨w3.heap.size,2,none⟩ (.slice (some ⟨w3.heap.size+1,0,none⟩) n n)):=Zaw (Zaa e4 e5) B5 (fun b hb e=>by omega)
  exact Zaw (Zaa e35 e7) BW (fun b hb e=>by omega)
theorem Zsz (w:World):Ty (w.alloc (.cells #[.slice none 0 0,.pointer none] 163)) w.heap.size 163∧(w.alloc (.cells #[.slice none 0 0,.pointer none] 163)).cell? ⟨w.heap.size,0,none⟩=some (.slice none 0 0)∧(w.alloc (.cells #[.slice none 0 0,.pointer none] 163)).cell? ⟨w.heap.size,1,none⟩=some (.pointer none)∧(w.alloc (.cells #[.slice none 0 0,.pointer none] 163)).frozen? ⟨w.heap.size,0,none⟩=false∧(w.alloc (.cells #[.slice none 0 0,.pointer none] 163)).frozen? ⟨w.heap.size,1,none⟩=false:=by
 have hh:=heap_alloc_new w (.cells #[.slice none 0 0,.pointer none] 163)
 generalize w.alloc (.cells #[.slice none 0 0,.pointer none] 163)=W at hh ⊢
 exact⟨⟨_,_,hh⟩,by simp[World.cell?,hh],by simp[World.cell?,hh],by simp[World.frozen?,hh],by simp[World.frozen?,hh]⟩
structure Zqi (W2:World)(q9:Nat)(av:Option Addr)(m cv pr:Nat)(vl:List Value)(rs:List (List ByteArray))(W:World):Prop where
 ext:Ext W2 W
 c0:W.cell? ⟨q9,0,none⟩=some (.slice av m cv)
 c1:W.cell? ⟨q9,1,none⟩=some (.pointer (some ⟨pr,0,none⟩))
 own:W.ownsRow W2.heap.size 3 1 (.slice av m cv) m vl
 rows:Zay W (pr+1) pr m rs
 low:W2.heap.size≤pr
theorem Zov {W2 w6:World}{q9:Nat}{av:Option Addr}{m cv pr:Nat}{vl:List Value}{rs:List (List ByteArray)}(TQ:Ty w6 q9 163)(c0:w6.cell? ⟨q9,0,none⟩=some (.slice none 0 0))(c1:w6.cell? ⟨q9,1,none⟩=some (.pointer none))(e:Ext W2 w6)(ow:w6.ownsRow W2.heap.size 3 1 (.slice av m cv) m vl)(rv:Zay w6 (pr+1) pr m rs)(hpr:W2.heap.size≤pr)(hq:W2.heap.size≤q9):Zqi W2 q9 av m cv pr vl rs ((w6.setCell ⟨q9,0,none⟩ (.slice av m cv)).setCell ⟨q9,1,none⟩ (.pointer (some ⟨pr,0,none⟩))):=by
 have BS:Zah (fun b=>b=q9) w6 ((w6.setCell ⟨q9,0,none⟩ (.slice av m cv)).setCell ⟨q9,1,none⟩ (.pointer (some ⟨pr,0,none⟩))):=((Zah.refl (fun b=>b=q9) w6).set (.inl rfl) _ _).set (.inl rfl) _ _
 refine⟨Zaw e BS (fun b hb q=>by omega),?_,?_,BS.own ow (fun b e q=>by subst q;exact(ZaN ow e).ne TQ (by decide) rfl),(rv.but BS (fun q=>?_) (fun g hg q=>by subst q;exact(rv.item_ty hg).1.ne TQ (by decide) rfl) (fun b hb ht=>by subst hb;exact ht.ne TQ (by decide) rfl)).1,hpr⟩
 ·rw[World.cell?_setCell_other _ _ _ _ (by simp)]
  exact World.cell?_setCell_same _ _ _ c0
 ·exact World.cell?_setCell_same _ _ _ ((World.cell?_setCell_other _ _ _ _ (by simp)).trans c1)
 ·have h1:=rv.c0
  subst q
  rw[c0] at h1
  cases h1
theorem Zdx {r:ZaQ}(h:Zap r=0){l:K.Lit}(hl:l∈r.body):Zbf l=true:=by
 unfold Zap at h
 split at h
 ·cases h
 ·split at h
  ·cases h
  ·rename_i h2
   by_cases q:Zbf l=true
   ·exact q
   ·exact absurd (List.any_eq_true.2 ⟨l,hl,by simpa using q⟩) h2
