/- The walk of slices.Repeat at one base. -/
import Derived.Test.YtjfbjjmiobgjfaaGreatG38
import Derived.Test.YtjfbjjmiobgjfaaGreatG40
import Derived.Test.YtjfbjjmiobgjfaaGreatG41
set_option maxRecDepth 100000
set_option maxHeartbeats 8000000
namespace Go.Proofs.YtjfbjjmiobgjfaaGreat
open ChangeShapes WideShapes ChangeAt RowKit
theorem ZrE (n:Nat)(h:n≤1000000):bits .and .u64 (n:Int) 4294967295=(n:Int):=by
 have h1:=bits_and_u64_nat n 4294967295 (by omega) (by omega)
 have e:n &&& 4294967295=n%4294967296:=Nat.and_two_pow_sub_one_eq_mod n 32
 rw[e,Nat.mod_eq_of_lt (by omega)] at h1
 exact h1
theorem ZsX (n:Nat)(hn:n≤1000000)(w:World):Calls Tryz.prog 116 #[.int .u64 1,.int .u64 (n:Int)] w fun e w'=>e=.returned (.tuple #[.int .u64 0,.int .u64 (n:Int)])∧w'=w:=by
 have m1:bits .and .u64 (1:Int) 4294967295=1:=ZrE 1 (by omega)
 have w0:IntKind.u64.wrap (0:Int)=0:=by decide
 have z0:(0:Int)/4294967296=0:=by decide
 have mn:=ZrE n hn
 have m0:bits .and .u64 (0:Int) 4294967295=0:=by decide
 have d0:(n:Int)/4294967296=0:=by omega
 have wn:IntKind.u64.wrap (n:Int)=(n:Int):=by rw[IntKind.wrap_u64];omega
 go_enter Tryz.func116,Tryz.ntmps116
 go_wp2
 go_ret2
 exact⟨rfl,rfl⟩
theorem Zu6 (n:Nat)(hn:n≤1000000)(w:World):Calls Tryz.prog 72 #[.int .u64 1,.int .u64 (n:Int)] w fun e w'=>e=.returned (.tuple #[.int .u64 0,.int .u64 (n:Int)])∧w'=w:=by
 have wn:IntKind.u64.wrap (n:Int)=(n:Int):=by rw[IntKind.wrap_u64];omega
 have M:=zh (ZsX n hn w)
 go_enter Tryz.func72,Tryz.ntmps72
 go_wp2_with (go_at_call 116;(with_reducible refine M.out.mono ?_);rintro e w1 ⟨rfl,hw1⟩;obtain rfl:=hw1.symm)
 go_ret2
 exact⟨rfl,rfl⟩
theorem ZoV:(Tryz.prog.info? 35).map (fun i=>(i.zero,i.size,i.bytes))=some (some (.pointer none),1,8):=by kernel_rfl
def ZmX (bb n k:Nat):List Value:=List.replicate k (.pointer (some ⟨bb,0,none⟩))++List.replicate (n-k) (.pointer none)
theorem ZiT {w:World}{base g n c:Nat}{e:TypeId}{xs:List Value}(h:w.ownsRow base e 1 (.slice (some ⟨g,0,none⟩) n c) n xs)(j:Nat)(v:Value)(hj:xs[j]? =some v):w.cell? ⟨g,j,none⟩=some v:=by
 have:=h.cells (g:=g) rfl j v hj
 rwa [Addr.add_lit,Nat.zero_add] at this
theorem ZlZ {bb n k c:Nat}(h:k+c≤n):Zpy (ZmX bb n k) k (List.replicate c (.pointer (some ⟨bb,0,none⟩)))=ZmX bb n (k+c):=by
 have hl:(ZmX bb n k).length=n:=by unfold ZmX;simp;omega
 rw[Zg4 _ _ _ (by rw[hl,List.length_replicate];omega),List.length_replicate]
 unfold ZmX
 rw[List.take_left' (by simp),List.drop_append,List.drop_of_length_le (by simp),List.nil_append,List.length_replicate,List.drop_replicate,List.replicate_append_replicate]
 congr 2
 omega
def Zl0 (bb n:Nat)(w:World)(e:Ending)(w':World):Prop:=∃g,e=.returned (.slice (some ⟨g,0,none⟩) n n)∧(∀i,i<n→w'.cell? ⟨g,i,none⟩=some (.pointer (some ⟨bb,0,none⟩)))∧w.heap.size≤g∧Ty w' g 35∧(∀i,w'.frozen? ⟨g,i,none⟩=false)∧Ext w w'
theorem ZqD (bb n b0:Nat)(w:World)(h:w.cell? ⟨b0,0,none⟩=some (.pointer (some ⟨bb,0,none⟩)))(hn:n≤1000000):Calls Tryz.prog 30 #[.slice (some ⟨b0,0,none⟩) 1 1,.int .i64 (n:Int)] w (Zl0 bb n w):=by
 obtain⟨i0,hi,hz0,hz1,hz2⟩:=info_parts ZoV
 obtain⟨wm,hmk,om0,gm⟩:=run_make_full (P:=Tryz.prog) w w.heap.size 72 35 i0 (.pointer none) 1 Tryz.underlying72 hi hz0 hz1 .i64 .i64 n (by rw[hz2];omega) (by unfold maxLen;omega) (Nat.le_refl _)
 have om:wm.ownsRow w.heap.size 35 1 (.slice (some ⟨w.heap.size,0,none⟩) n n) n (ZmX bb n 0):=by
  have e:(madeCells (Value.pointer none).cells (n*1)).toList=ZmX bb n 0:=by
   unfold ZmX
   rw[Nat.mul_one]
   apply List.ext_getElem
   ·simp[madeCells]
   ·intro i h1 h2
    simp[madeCells,Value.cells,Nat.mod_one]
  rw[←e]
  exact om0
 have em:Ext w wm:=⟨gm.os,gm.tape,gm.output,gm.size,fun i hi=>gm.block i hi (by simp)⟩
 have ML:=zh (Zu6 n hn w)
 have wn:IntKind.u64.wrap (n:Int)=(n:Int):=by rw[IntKind.wrap_u64];omega
 have wi:IntKind.i64.wrap (n:Int)=(n:Int):=by rw[IntKind.wrap_i64];omega
 have hge:¬((n:Int)<0):=by omega
 have hbig:¬((9223372036854775807:Int)<(n:Int)):=by omega
 have hsz:(Tryz.prog.info? 35).map (·.size)=some 1:=by rw[hi];simp[hz1]
 have hbw:b0<w.heap.size:=World.block_lt_of_cell? w ⟨b0,0,none⟩ h
 obtain⟨g,hg⟩:∃g,w.heap.size=g:=⟨_,rfl⟩
 have HG:=zh hg
 rw[hg] at om hmk
 obtain⟨c0,hc0⟩:∃c0,c0=min n 1:=⟨_,rfl⟩
 have cp0:∀ty,(Builtin.copy_ #[72,72] ty #[.slice (some ⟨g,0,none⟩) n n,.slice (some ⟨b0,0,none⟩) 1 1]).run Tryz.prog wm=.ok (goInt (List.replicate c0 (Value.pointer (some ⟨bb,0,none⟩))).length) (wm.setCells g 0 (List.replicate c0 (.pointer (some ⟨bb,0,none⟩)))):=fun ty=>
  run_copy_cells wm _ _ ty 35 g 0 n n ⟨b0,0,none⟩ 1 1 (List.replicate c0 (.pointer (some ⟨bb,0,none⟩))) Tryz.underlying72 hsz (by rw[List.length_replicate,hc0];exact Nat.min_comm _ _) (fun j v hj=>by
   have hjl:=(zgs hj).1
   rw[List.length_replicate] at hjl
   rw[List.getElem?_replicate,if_pos hjl] at hj
   cases hj
   obtain rfl:j=0:=by omega
   rw[Addr.add_lit]
   exact Zac em h) (fun j hj=>by have hcz:=hc0;rw[List.length_replicate] at hj;rw[ZiT om (0+j) (.pointer none) (by unfold ZmX;rw[List.getElem?_append_right (by simp),List.length_replicate,List.getElem?_replicate,if_pos (by omega)])];rfl) (fun j _=>om.frozenAt _) (fun v hv=>by rw[(List.mem_replicate.1 hv).2];rfl)
 obtain⟨os1,og1⟩:=Zck (List.replicate c0 (.pointer (some ⟨bb,0,none⟩))) wm 0 _ om
 rw[ZlZ (by omega),Nat.zero_add] at os1
 have E1:Hid (Ext w (wm.setCells g 0 (List.replicate c0 (.pointer (some ⟨bb,0,none⟩))))):=Zaz em og1 (fun b e=>by cases e;omega)
 have OS1:=zh os1
 have HC0:=zh hc0
 clear os1 og1 om om0 gm h hbw hc0
 go_enter Tryz.func30,Tryz.ntmps30
 go_wp2_with (first
  |(go_at_call 72;(with_reducible refine ML.out.mono ?_);rintro e w1 ⟨rfl,hw1⟩;obtain rfl:=hw1.symm)
  |(at_builtin;refine wpList_copy_runI _ rfl _ _ 72 72 rfl _ _ rfl rfl (cp0 _) ?_))
 have hgl:goInt (List.replicate c0 (Value.pointer (some ⟨bb,0,none⟩))).length=.int .i64 (c0:Nat):=by rw[List.length_replicate];rfl
 go_loopw [8] (fun v wj=>∃k:Nat,v=.int .i64 (k:Nat)∧k≤n∧(n=0∨1≤k)∧wj.ownsRow g 35 1 (.slice (some ⟨g,0,none⟩) n n) n (ZmX bb n k)∧Ext w wj) (fun v _=>n-(intOf v).toNat)
 case atStart=>exact⟨c0,by first|rfl|(simp [goInt]),by have:=HC0.out;omega,by have:=HC0.out;omega,OS1.out,E1.out⟩
 case round=>
  obtain⟨k,rfl,hk,hk1,hown,hE⟩:=hrel
  have OW:=zh hown
  have HE:=zh hE
  clear hown hE
  by_cases hlt:k<n
  ·have hki:(k:Int)<(n:Int):=by omega
   obtain⟨c,hc⟩:∃c,c=min (n-k) k:=⟨_,rfl⟩
   have hcpos:1≤c:=by omega
   have hckn:k+c≤n:=by omega
   have hcp:∀ty,(Builtin.copy_ #[72,72] ty #[.slice (some ⟨g,k,none⟩) (n-k) (n-k),.slice (some ⟨g,0,none⟩) k n]).run Tryz.prog wr.drew=.ok (goInt (List.replicate c (Value.pointer (some ⟨bb,0,none⟩))).length) (wr.drew.setCells g k (List.replicate c (.pointer (some ⟨bb,0,none⟩)))):=fun ty=>
    run_copy_cells wr.drew _ _ ty 35 g k (n-k) (n-k) ⟨g,0,none⟩ k n (List.replicate c (.pointer (some ⟨bb,0,none⟩))) Tryz.underlying72 hsz (by rw[List.length_replicate,hc];first|rfl|exact Nat.min_comm _ _) (fun j v hj=>by
     have hjl:=(zgs hj).1
     rw[List.length_replicate] at hjl
     rw[List.getElem?_replicate,if_pos hjl] at hj
     cases hj
     rw[Addr.add_lit,Nat.zero_add]
     exact ZiT OW.out.drew j _ (by unfold ZmX;rw[List.getElem?_append_left (by simp;omega),List.getElem?_replicate,if_pos (by omega)])) (fun j hj=>by
     rw[List.length_replicate] at hj
     rw[ZiT OW.out.drew (k+j) (.pointer none) (by unfold ZmX;rw[List.getElem?_append_right (by simp),List.length_replicate,List.getElem?_replicate,if_pos (by omega)])]
     rfl) (fun j _=>OW.out.drew.frozenAt _) (fun v hv=>by rw[(List.mem_replicate.1 hv).2];rfl)
   obtain⟨os2,og2⟩:=Zck (List.replicate c (.pointer (some ⟨bb,0,none⟩))) wr.drew k _ OW.out.drew
   rw[ZlZ hckn] at os2
   have OS2:=zh os2
   have CP:Hid (1≤c∧k+c≤n∧k<n):=⟨hcpos,hckn,hlt⟩
   have E2:Hid (Ext w (wr.drew.setCells g k (List.replicate c (.pointer (some ⟨bb,0,none⟩))))):=Zaz (Zaa HE.out (Zaf zbr)) og2 (fun b e=>by cases e;have:=HG.out;omega)
   have hkc:IntKind.i64.wrap ((k:Int)+(c:Int))=(k:Int)+(c:Int):=by rw[IntKind.wrap_i64];omega
   have hgc:goInt (List.replicate c (Value.pointer (some ⟨bb,0,none⟩))).length=.int .i64 (c:Nat):=by rw[List.length_replicate];rfl
   have hk0:(0:Int)≤(k:Int):=by omega
   have hkn:(k:Int)≤(n:Int):=by omega
   have hnk:¬(n=k):=by omega
   clear os2 og2 hcpos hckn hc
   have mixed:Tryz.prog.follows .mixedOrders=true:=by kernel_rfl
   go_wp2_with fail
   go_region_law_o (refine step_copy_runI rfl _ _ 72 72 rfl _ _ (by simp[Act.eval,Act.put]) (by simp[Act.eval,Act.put]) (hcp _) ?_)
   all_goals
    go_wp2
    go_roundw
    case rel=>exact⟨_,_,_,_,_,_,_,_,_,_,_,_,_,_,⟨k+c,by first|rfl|(simp [goInt]),CP.out.2.1,.inr (by have:=CP.out;omega),OS2.out,E2.out⟩,rfl⟩
    case measure=>have:=CP.out;change n-((k:Int)+(c:Int)).toNat<n-((k:Int)).toNat;omega
  ·obtain rfl:k=n:=by omega
   have hge2:¬(k:Int)<(k:Int):=by omega
   go_wp2
   go_returns
   refine⟨g,rfl,fun i hi=>ZiT OW.out i _ ?_,Nat.le_of_eq HG.out,ZaN OW.out rfl,fun i=>OW.out.frozenAt i,HE.out⟩
   unfold ZmX
   rw[List.getElem?_append_left (by simpa using hi),List.getElem?_replicate,if_pos hi]
open K (ZaG Zda ZaQ Zaq Zbl ZaR Zbw Zcm)
def Zeh (r:ZaQ)(fa fB:ZaT)(y:List ByteArray):Prop:=∃x,(∃(i:Nat) (l:K.Lit),r.body[i]? =some l∧l.kind=1∧Zan fB l.atom.pred≠[]∧Zee r (ZlQ fa fB i) x)∧Zbj r x=y
def ZoW (r:ZaQ)(fa fl:ZaT)(nh:Nat)(w:World)(e:Ending)(w':World):Prop:=Ext w w'∧∃fB:ZaT,(∀k q,q∈Zan fB k↔q∈Zan fl k∧q∈Zan fa k)∧((∃pr rows,e=.returned (.tuple #[.pointer (some ⟨pr,0,none⟩),.int .i64 0])∧Zay w' (pr+1) pr nh rows∧Zbs nh rows∧∀y,y∈rows↔Zeh r fa fB y)∨∃er rows y,er≠0∧e=.returned (.tuple #[.pointer none,.int .i64 er])∧Zbs nh rows∧(∀y∈rows,Zeh r fa fB y)∧Zeh r fa fB y∧Za5 nh rows y=er)
def ZeX (r:ZaQ)(fa fB:ZaT)(k:Nat)(y:List ByteArray):Prop:=∃x,(∃(i:Nat) (l:K.Lit),i<k∧r.body[i]? =some l∧l.kind=1∧Zan fB l.atom.pred≠[]∧Zee r (ZlQ fa fB i) x)∧Zbj r x=y
theorem ZjO {r:ZaQ}{fa fB:ZaT}{k:Nat}{l:K.Lit}(hl:r.body[k]? =some l)(hn:l.kind≠1∨Zan fB l.atom.pred=[])(y:List ByteArray):ZeX r fa fB (k+1) y↔ZeX r fa fB k y:=by
 constructor
 ·rintro⟨x,⟨i,l',h1,h2,h3,h4,h5⟩,h6⟩
  refine⟨x,⟨i,l',?_,h2,h3,h4,h5⟩,h6⟩
  rcases Nat.lt_or_ge i k with q|q
  ·exact q
  ·obtain rfl:i=k:=by omega
   rw[hl] at h2
   cases h2
   rcases hn with hn|hn
   ·exact absurd h3 hn
   ·exact absurd hn h4
 ·rintro⟨x,⟨i,l',h1,h2⟩,h6⟩
  exact⟨x,⟨i,l',by omega,h2⟩,h6⟩
theorem ZjP {r:ZaQ}{fa fB:ZaT}{k:Nat}{l:K.Lit}(hl:r.body[k]? =some l)(hk:l.kind=1)(hne:Zan fB l.atom.pred≠[])(y:List ByteArray):ZeX r fa fB (k+1) y↔ZeX r fa fB k y∨∃x,Zee r (ZlQ fa fB k) x∧Zbj r x=y:=by
 constructor
 ·rintro⟨x,⟨i,l',h1,h2,h3,h4,h5⟩,h6⟩
  rcases Nat.lt_or_ge i k with q|q
  ·exact .inl ⟨x,⟨i,l',q,h2,h3,h4,h5⟩,h6⟩
  ·obtain rfl:i=k:=by omega
   exact .inr ⟨x,h5,h6⟩
 ·rintro (⟨x,⟨i,l',h1,h2⟩,h6⟩|⟨x,h5,h6⟩)
  ·exact⟨x,⟨i,l',by omega,h2⟩,h6⟩
  ·exact⟨x,⟨k,l,by omega,hl,hk,hne,h5⟩,h6⟩
structure Zhy (r:ZaQ)(fa fB:ZaT)(w:World)(ah ab:Option Addr)(nh ch nb cb p1 prb pr g bb lo5 Z:Nat)(bs:Nat→Nat)(k:Nat)(rs:List (List ByteArray))(W:World):Prop where
 ext:Ext w W
 box:W.heap[p1]? =some (.cells #[.string r.head.pred,.slice ah nh ch,.slice ab nb cb] 27 (0,0))
 rb:W.heap[prb]? =some (.cells #[.pointer (some ⟨pr,0,none⟩)] 40 (0,0))
 rows:Zay W (pr+1) pr nh rs
 ty:Ty W pr 100
 ok:Zbs nh rs
 mem:∀y,y∈rs↔ZeX r fa fB k y
 base:Zbo W lo5 bb fB
 baseZ:∀b,Zb6 W bb fB b→b<Z
 item:∀gi,ZaJ W pr=some gi→Z≤gi
 cells:∀i,i<nb→W.cell? ⟨g,i,none⟩=some (.pointer (some ⟨bs i,0,none⟩))
 froz:∀i,W.frozen? ⟨g,i,none⟩=false
 gt:Ty W g 35
section
variable {r:ZaQ} {fa fB:ZaT} {w:World} {ah ab:Option Addr} {nh ch nb cb p1 prb pr g bb lo5 Z:Nat} {bs:Nat→Nat} {k:Nat} {rs:List (List ByteArray)} {W:World}
theorem Zhy.later (h:Zhy r fa fB w ah ab nh ch nb cb p1 prb pr g bb lo5 Z bs k rs W){W':World}(e:Ext W W'):Zhy r fa fB w ah ab nh ch nb cb p1 prb pr g bb lo5 Z bs k rs W':=by
 refine⟨Zaa h.ext e,(e.block _ (zag h.box).1).trans h.box,(e.block _ (zag h.rb).1).trans h.rb,h.rows.ext e,h.ty.ext e,h.ok,h.mem,h.base.ext e,fun b hb=>h.baseZ b (h.base.r.ext_bl e hb),fun gi hg=>h.item gi ?_,fun i hi=>Zac e (h.cells i hi),fun i=>(e.frozen (p:=⟨g,i,none⟩) h.gt.lt).trans (h.froz i),h.gt.ext e⟩
 obtain⟨_,_,_,q,_⟩:=h.rows.row
 rw[Za6 (Zac e q)] at hg
 rw[Za6 q]
 exact hg
theorem Zhy.skip (h:Zhy r fa fB w ah ab nh ch nb cb p1 prb pr g bb lo5 Z bs k rs W){l:K.Lit}(hl:r.body[k]? =some l)(hn:l.kind≠1∨Zan fB l.atom.pred=[]):Zhy r fa fB w ah ab nh ch nb cb p1 prb pr g bb lo5 Z bs (k+1) rs W:=
 ⟨h.ext,h.box,h.rb,h.rows,h.ty,h.ok,fun y=>(h.mem y).trans (ZjO hl hn y).symm,h.base,h.baseZ,h.item,h.cells,h.froz,h.gt⟩
theorem Zhy.congr (h:Zhy r fa fB w ah ab nh ch nb cb p1 prb pr g bb lo5 Z bs k rs W){bs':Nat→Nat}(e:∀i,bs i=bs' i):Zhy r fa fB w ah ab nh ch nb cb p1 prb pr g bb lo5 Z bs' k rs W:=by
 obtain rfl:bs=bs':=funext e
 exact h
theorem Zl1 {W:World}{b:Nat}{cs:Array Value}{t:TypeId}(h:W.heap[b]? =some (.cells cs t (0,0))):Ty W b t:=⟨cs,_,h⟩
theorem Zhy.set (h:Zhy r fa fB w ah ab nh ch nb cb p1 prb pr g bb lo5 Z bs k rs W)(hg:w.heap.size≤g)(hgZ:Z≤g)(i0 v:Nat)(hi0:i0<nb):Zhy r fa fB w ah ab nh ch nb cb p1 prb pr g bb lo5 Z (fun i=>if i=i0 then v else bs i) k rs (W.setCell ⟨g,i0,none⟩ (.pointer (some ⟨v,0,none⟩))):=by
 have e:Zah (fun b=>b=g) W (W.setCell ⟨g,i0,none⟩ (.pointer (some ⟨v,0,none⟩))):=(Zah.refl (fun b=>b=g) W).set (.inl rfl) _ _
 have n1:p1≠g:=(Zl1 h.box).ne h.gt (by decide)
 have n2:prb≠g:=(Zl1 h.rb).ne h.gt (by decide)
 have n3:pr≠g:=h.ty.ne h.gt (by decide)
 have n4:∀gi,ZaJ W pr=some gi→gi≠g:=fun gi hi=>(h.rows.item_ty hi).1.ne h.gt (by decide)
 have ns:∀b,b=g→¬Ty W b 9:=fun b hb ht=>by subst hb;exact ht.ne h.gt (by decide) rfl
 obtain⟨r1,r2⟩:=h.rows.but e n3 n4 ns
 obtain⟨q1,q2⟩:=h.base.butF e (fun b hb hq=>by have:=h.baseZ b hq;omega) ns
 refine⟨Zaw h.ext e (fun b hb q=>by omega),(e.block _ (zag h.box).1 n1).trans h.box,(e.block _ (zag h.rb).1 n2).trans h.rb,r1,h.ty.but e n3,h.ok,h.mem,q1,fun b hb=>h.baseZ b (q2 b hb),fun gi hi=>h.item gi (r2 ▸ hi),fun i hi=>?_,fun i=>by rw[World.frozen?_setCell];exact h.froz i,?_⟩
 ·by_cases hii:i=i0
  ·subst hii
   rw[if_pos rfl]
   exact World.cell?_setCell_same _ _ _ (h.cells i hi)
  ·rw[if_neg hii,World.cell?_setCell_other _ _ _ _ (by intro e;injection e with e1 e2;exact hii e2.symm)]
   exact h.cells i hi
 ·obtain⟨cs,x,q⟩:=h.gt
  obtain⟨cs',q'⟩:=Zbk q i0 (.pointer (some ⟨v,0,none⟩))
  exact⟨cs',x,q'⟩
theorem Zhy.gcell (h:Zhy r fa fB w ah ab nh ch nb cb p1 prb pr g bb lo5 Z bs k rs W){W':World}(e:Zah (fun b=>b=pr∨ZaJ W pr=some b) W W'){i:Nat}(hi:i<nb):W'.cell? ⟨g,i,none⟩=some (.pointer (some ⟨bs i,0,none⟩))∧W'.frozen? ⟨g,i,none⟩=false:=by
 have n:¬(g=pr∨ZaJ W pr=some g):=fun q=>by
  rcases q with q|q
  ·exact h.gt.ne h.ty (by decide) q
  ·exact h.gt.ne (h.rows.item_ty q).1 (by decide) rfl
 exact⟨e.cell n (h.cells i hi),ZaE e n h.gt.lt (h.froz i)⟩
theorem Zhy.took (h:Zhy r fa fB w ah ab nh ch nb cb p1 prb pr g bb lo5 Z bs k rs W)(hpw:w.heap.size≤pr)(hZ:w.heap.size≤Z)(hlo:pr<lo5)(hZ':Z≤W.heap.size){W':World}{rs':List (List ByteArray)}(e:Zah (fun b=>b=pr∨ZaJ W pr=some b) W W')(ha:Zfu pr W W')(h1:Zay W' (pr+1) pr nh rs')(h2:Zbs nh rs')(h3:∀y,y∈rs'↔ZeX r fa fB (k+1) y):Zhy r fa fB w ah ab nh ch nb cb p1 prb pr g bb lo5 Z bs (k+1) rs' W':=by
 have nit:∀{b:Nat} {t:TypeId},Ty W b t→t≠54→t≠100→¬(b=pr∨ZaJ W pr=some b):=fun ht hn1 hn2 q=>by
  rcases q with rfl|q
  ·exact ht.ne h.ty hn2 rfl
  ·exact ht.ne (h.rows.item_ty q).1 hn1 rfl
 have ns:∀b,(b=pr∨ZaJ W pr=some b)→¬Ty W b 9:=fun b hb ht=>nit ht (by decide) (by decide) hb
 obtain⟨q1,q2⟩:=h.base.butF e (fun b hb hq=>by
  rcases hb with rfl|hb
  ·have:=(h.base.bl hq).1;omega
  ·have:=h.baseZ b hq;have:=h.item b hb;omega) ns
 refine⟨Zaw h.ext e (fun b hb q=>?_),(e.block _ (zag h.box).1 (nit (Zl1 h.box) (by decide) (by decide))).trans h.box,(e.block _ (zag h.rb).1 (nit (Zl1 h.rb) (by decide) (by decide))).trans h.rb,h1,?_,h2,h3,q1,fun b hb=>h.baseZ b (q2 b hb),fun gi hi=>?_,fun i hi=>e.cell (nit h.gt (by decide) (by decide)) (h.cells i hi),fun i=>?_,h.gt.but e (nit h.gt (by decide) (by decide))⟩
 ·rcases q with rfl|q
  ·omega
  ·have:=h.item b q;omega
 ·obtain⟨cs,x,q⟩:=h.ty
  obtain⟨cs',q'⟩:=ha.typ cs _ x q
  exact⟨cs',x,q'⟩
 ·rcases ha.itm with q|⟨g',q,hg'⟩
  ·exact h.item gi (q ▸ hi)
  ·rw[q] at hi
   cases hi
   omega
 ·exact ZaE e (nit h.gt (by decide) (by decide)) h.gt.lt (h.froz i)
end
theorem ZsY (r:ZaQ)(ah:Option Addr)(nh ch:Nat)(ab:Option Addr)(nb cb:Nat)(lo1 b1 lo2 b2:Nat)(fa fl:ZaT)(L:List ByteArray)(w:World)(hr:ZaR w r ah nh ch ab nb cb)(hv:(Zad r).length≤1000000)(hck:Zap r=0)(hag:r.head.terms.any Znd=false)(hat:r.head.terms.any Zlt=false)(hnb:nb≤1000000)(h1:Zbo w lo1 b1 fa)(h2:Zbo w lo2 b2 fl)(hL:∀k,fl k≠none↔k∈L)(hnm:∀k∈L,ZbA k=true)(hn:L.length≤1000000)(hup:L.Pairwise (fun x y=>ltB x y=true))(htot:(L.map fun x=>(Zan fl x).length).sum≤1000):
  Calls Tryz.prog 7 #[.agg #[.string r.head.pred,.slice ah nh ch,.slice ab nb cb],.pointer (some ⟨b1,0,none⟩),.pointer (some ⟨b2,0,none⟩)] w (ZoW r fa fl nh w):=by
 have HL:=zh hr.terms.2.1
 have H64:Hid (nh≤64):=by have:=(Zdy hck).1;rw[HL.out] at this;exact this
 have EA:Hid (∀o,Ext w (w.alloc o)):=fun o=>Zab zbr o
 have AG:Hid (∀W,Ext w W→Calls Tryz.prog 22 #[.agg #[.string r.head.pred,.slice ah nh ch]] W fun e w'=>(∃i:Int,e=.returned (.tuple #[.int .i64 i,.bool false]))∧Ext W w'):=fun W hW=>by
  have:=ZoT r.head ah nh ch W (hr.terms.keep hW)
  rw[hag] at this
  exact this
 have CK:Hid (∀W,Ext w W→Calls Tryz.prog 23 #[.agg #[.string r.head.pred,.slice ah nh ch,.slice ab nb cb]] W fun e w'=>e=.returned (.int .i64 0)∧Ext W w'):=fun W hW=>by
  have:=Zio r ah nh ch ab nb cb W (hr.keep hW) hv
  unfold Zb5 at this
  rw[hck] at this
  exact this
 have BO:Hid (∀W,Ext w W→Calls Tryz.prog 25 #[.pointer (some ⟨b1,0,none⟩),.pointer (some ⟨b2,0,none⟩)] W (ZlW fa fl W)):=fun W hW=>Zuo lo1 b1 lo2 b2 fa fl L W (h1.ext hW) (h2.ext hW) hL hnm hn hup htot
 have NR:=zh (fun W=>Zeo nh H64.out W)
 have HR:=zh hr
 have HV:=zh hv
 have HCK:=zh hck
 have HAT:=zh hat
 have HB1:=zh h1
 obtain⟨W1,hW1⟩:∃W1,W1=w.alloc (.cells #[.string r.head.pred,.slice ah nh ch,.slice ab nb cb] 27):=⟨_,rfl⟩
 have RB:Hid (∀W,Ext W1 W→W.heap[w.heap.size]? =some (.cells #[.string r.head.pred,.slice ah nh ch,.slice ab nb cb] 27 (0,0))):=fun W hW=>(hW.block w.heap.size (by rw[hW1];simp)).trans (by rw[hW1];exact heap_alloc_new w _)
 have RC:Hid (∀W,Ext W1 W→W.cell? ⟨w.heap.size,0,none⟩=some (.string r.head.pred)∧W.cell? ⟨w.heap.size,1,none⟩=some (.slice ah nh ch)∧W.cell? ⟨w.heap.size,2,none⟩=some (.slice ab nb cb)):=fun W hW=>by
  have h:=RB.out W hW
  exact⟨by simp[World.cell?,h],by simp[World.cell?,h],by simp[World.cell?,h]⟩
 have E1:Hid (Ext w W1):=by show Ext _ _;rw[hW1];exact EA.out _
 have HS1:Hid (W1.heap.size=w.heap.size+1):=by show _=_;rw[hW1];simp
 have RP:Hid (∀(n b0:Nat) (W:World),n≤1000000→W.cell? ⟨b0,0,none⟩=some (.pointer (some ⟨b1,0,none⟩))→Calls Tryz.prog 30 #[.slice (some ⟨b0,0,none⟩) 1 1,.int .i64 (n:Int)] W (Zl0 b1 n W)):=fun n b0 W hn h=>ZqD b1 n b0 W h hn
 have nB1:∀w,(binOp .eql 35 (.pointer (some ⟨b1,0,none⟩)) (.pointer none)).run Tryz.prog w=.ok (.bool false) w:=fun w=>by kernel_rfl
 have nB2:∀w,(binOp .eql 35 (.pointer (some ⟨b2,0,none⟩)) (.pointer none)).run Tryz.prog w=.ok (.bool false) w:=fun w=>by kernel_rfl
 clear hr hv hck hag hat h1 h2 hL hnm hup htot
 go_enter Tryz.func7,Tryz.ntmps7
 go_upto_region 1 with (fail)
 rw[←hW1]
 clear hW1
 obtain⟨c0,c1,c2⟩:=RC.out _ zbr
 go_wp2_with (first
  |(go_at_call 22;(with_reducible refine(AG.out _ E1.out).mono ?_);rintro e w2 ⟨⟨i2,rfl⟩,e2⟩;obtain⟨c0,c1,c2⟩:=RC.out _ e2)
  |(go_at_call 23;(with_reducible refine(CK.out _ (Zaa E1.out e2)).mono ?_);rintro e w3 ⟨rfl,e3⟩;obtain⟨c0,c1,c2⟩:=RC.out _ (Zaa e2 e3);have e23:=Zaa e2 e3)
  |(go_at_call 24;(with_reducible refine(NR.out _).mono ?_);rintro e w4 ⟨rfl,v4,t4,i4,e4,s4⟩;have e24:=Zaa e23 e4)
  |(go_at_call 25;(with_reducible refine(BO.out _ (Zaa E1.out (Zab e24 _))).mono ?_);rintro e w5 ⟨e5,bb,fB,rfl,v5,m5⟩;have e15:=Zaa (Zab e24 _) e5;have cc:=fun o=>(RC.out _ (Zab e15 o)).2.2)
  |(go_at_call 30;(with_reducible refine(RP.out nb _ _ hnb (World.cell?_alloc_new _ _ _ _)).mono ?_);rintro e w6 ⟨g,rfl,g1,g2,g3,g4,e6⟩;have e16:=Zaa (Zab e15 _) e6;have cd:=(RC.out _ e16).2.2))
 have BL:Hid (Zbl w ab nb r.body):=HR.out.body
 obtain⟨p1,hp1⟩:∃p,w.heap.size=p:=⟨_,rfl⟩
 have HP1:=zh hp1
 obtain⟨pr,hpr⟩:∃p,w3.heap.size=p:=⟨_,rfl⟩
 obtain⟨Z,hZ⟩:∃p,w5.heap.size=p:=⟨_,rfl⟩
 obtain⟨lo5,hlo5⟩:∃p,(w4.alloc (.cells #[.pointer (some ⟨w3.heap.size,0,none⟩)] 40)).heap.size=p:=⟨_,rfl⟩
 have SZ:Hid (p1<pr∧lo5=pr+2∧lo5≤Z∧Z<g∧p1<Z∧Z≤w6.heap.size):=by
  have h1:=e23.size
  have h2:=e5.size
  have h3:=e6.size
  have h4:W1.heap.size=p1+1:=by rw[←hp1];exact HS1.out
  simp only[World.size_alloc] at h2 h3 g2 hlo5
  exact⟨by omega,by omega,by omega,by omega,by omega,by omega⟩
 have ST:Hid (Zhy r fa fB w ah ab nh ch nb cb p1 (pr+1) pr g bb lo5 Z (fun _=>b1) 0 [] w6):=by
  have x46:Ext w4 w6:=Zaa (Zab zbr _) (Zaa e5 (Zaa (Zab zbr _) e6))
  have x56:Ext w5 w6:=Zaa (Zab zbr _) e6
  have q0:w4.heap.size=pr+1:=by rw[s4,hpr]
  have qb:(w4.alloc (.cells #[.pointer (some ⟨w3.heap.size,0,none⟩)] 40)).heap[pr+1]? =some (.cells #[.pointer (some ⟨pr,0,none⟩)] 40 (0,0)):=by
   have:=heap_alloc_new w4 (.cells #[.pointer (some ⟨w3.heap.size,0,none⟩)] 40)
   rw[q0,hpr] at this
   rw[hpr]
   exact this
  have x4a:Ext (w4.alloc (.cells #[.pointer (some ⟨w3.heap.size,0,none⟩)] 40)) w6:=Zaa e5 x56
  rw[hlo5] at v5
  rw[hpr] at v4 t4 i4
  refine⟨Zaa E1.out e16,by rw[←hp1];exact RB.out w6 e16,(x4a.block _ (zag qb).1).trans qb,v4.ext x46,t4.ext x46,Zbs.nil H64.out,fun y=>⟨fun h=>(by cases h),fun (h:ZeX r fa fB 0 y)=>(by obtain⟨x,⟨i,l,h,_⟩,_⟩:=h;omega)⟩,v5.ext x56,fun b hb=>by rw[←hZ];exact(v5.bl (v5.r.ext_bl x56 hb)).2,fun gi hi=>?_,g1,g4,g3⟩
  obtain⟨_,_,_,q,_⟩:=v4.row
  rw[Za6 (Zac x46 q),←Za6 q,i4] at hi
  cases hi
 have M5:=zh m5
 have HB5:Hid (∀o W,Zhy r fa fB w ah ab nh ch nb cb p1 (pr+1) pr g bb lo5 Z (fun _=>b1) o [] W→True):=fun _ _ _=>trivial
 rw[hp1,hpr]
 clear hp1 hpr hZ hlo5 v4 t4 i4 v5 g1 g3 g4 e2 e3 e4 e5 e6 e23 e24 e15 e16 cc cd c0 c1 c2 m5 s4 g2 AG CK BO NR RP HB5 nB1 nB2
 go_loopw [63] (fun i wj=>∃(k:Nat) (rs:List (List ByteArray)),k≤nb∧i=.int .i64 (k:Nat)∧Zhy r fa fB w ah ab nh ch nb cb p1 (pr+1) pr g bb lo5 Z (fun _=>b1) k rs wj∧Z≤wj.heap.size) (fun i _=>nb-(intOf i).toNat)
 case atStart=>exact⟨0,[],by omega,rfl,ST.out,SZ.out.2.2.2.2.2⟩
 case round=>
  obtain⟨k,rs,hk,rfl,hst,hz⟩:=hrel
  have ST:=zh hst
  have HZ:=zh hz
  clear hst hz
  by_cases hlt:k<nb
  ·have hki:(k:Int)<(nb:Int):=by omega
   obtain⟨l,b,o,hx,rfl,al,nl,cl,g0,g1,g2,g3,g4,g5,g6,g7,g8,g9⟩:=BL.out.2.at hlt
   have HX:=zh hx
   have y0:=Zac ST.out.ext g0
   have y1:=Zac ST.out.ext g1
   have y2:=Zac ST.out.ext g2
   have y3:=Zac ST.out.ext g3
   have y4:=Zac ST.out.ext g4
   have y5:=Zac ST.out.ext g5
   have y6:=Zac ST.out.ext g6
   have y7:=Zac ST.out.ext g7
   clear hx g0 g1 g2 g3 g4 g5 g6 g7 g8 g9
   by_cases hk1:l.kind=1
   ·have q1:(l.kind != 1)=false:=by simpa using hk1
    have HK:=zh hk1
    have SC:Hid (∀W,Ext wr W→Calls Tryz.prog 31 #[.pointer (some ⟨bb,0,none⟩),.string l.atom.pred] W fun e w'=>e=.returned (.int .i64 ((Zan fB l.atom.pred).length:Nat))∧w'=W):=fun W hW=>ZsO lo5 bb fB l.atom.pred W (ST.out.later hW).base
    have EO:Hid (∀o,Ext wr (wr.alloc o)):=fun o=>Zab zbr o
    obtain⟨M,hM⟩:∃M,(Zan fB l.atom.pred).length=M:=⟨_,rfl⟩
    rw[hM] at SC
    have HM:=zh hM
    clear hk1 hM
    by_cases hM0:M=0
    ·have HE:Hid (Zan fB l.atom.pred=[]):=List.eq_nil_of_length_eq_zero (HM.out.trans hM0)
     subst hM0
     go_wp2_with (go_at_call 31;(with_reducible refine(SC.out _ (EO.out _)).mono ?_);rintro e w7 ⟨rfl,hw7⟩;obtain rfl:=hw7.symm)
     go_roundw
     case rel=>exact⟨k+1,rs,by omega,by go_num,(ST.out.later (EO.out _)).skip HX.out (.inr HE.out),by simp;have:=HZ.out;omega⟩
     case measure=>simp[intOf];omega
    ·have hMi:((M:Int)==0)=false:=by rw[beq_eq_false_iff_ne];omega
     have HE:Hid (Zan fB l.atom.pred≠[]):=fun e=>hM0 (by rw[←HM.out,e];rfl)
     have TK:Hid (∀W,Zhy r fa fB w ah (some ⟨b,o,none⟩) nh ch nb cb p1 (pr+1) pr g bb lo5 Z (fun i=>if i=k then bb else b1) k rs W→Calls Tryz.prog 26 #[.slice (some ⟨g,0,none⟩) nb nb,.pointer (some ⟨p1,0,none⟩),.pointer (some ⟨pr+1,0,none⟩)] W (ZlY r (ZlQ fa fB k) pr nh rs W)):=fun W h=>by
      have ok1:Zfp fa:=fun q x hx=>(HB1.out.r.rel q x hx).2.2.2
      have okB:Zfp fB:=fun q x hx=>(h.base.r.rel q x hx).2.2.2
      refine Zuq r ah nh ch (some ⟨b,o,none⟩) nb cb (fun i=>if i=k then bb else b1) (ZlQ fa fB k) (some ⟨g,0,none⟩) nb p1 (pr+1) pr rs W w h.ext (by have:=SZ.out;rw[HP1.out];omega) HR.out (fun i hi=>⟨⟨g,0,rfl,by rw[Nat.zero_add];exact h.cells i hi⟩,?_⟩) (fun i _=>?_) HCK.out HAT.out HV.out hnb h.box h.rb h.rows h.ty h.ok
      ·show ∃lo,Zbo W lo (if i=k then bb else b1) (if i=k then fB else fa)
       by_cases hik:i=k
       ·rw[if_pos hik,if_pos hik];exact⟨lo5,h.base⟩
       ·rw[if_neg hik,if_neg hik];exact⟨lo1,HB1.out.ext h.ext⟩
      ·show Zfp (if i=k then fB else fa)
       by_cases hik:i=k
       ·rw[if_pos hik];exact okB
       ·rw[if_neg hik];exact ok1
     have GC:Hid (∀o,(wr.alloc o).cell? ⟨g,k,none⟩=some (.pointer (some ⟨b1,0,none⟩))∧(wr.alloc o).frozen? ⟨g,k,none⟩=false):=fun o=>⟨(ST.out.later (EO.out o)).cells k hlt,(ST.out.later (EO.out o)).froz k⟩
     have SETS:Hid (∀ob,Zhy r fa fB w ah (some ⟨b,o,none⟩) nh ch nb cb p1 (pr+1) pr g bb lo5 Z (fun i=>if i=k then bb else b1) k rs ((wr.alloc ob).setCell ⟨g,k,none⟩ (.pointer (some ⟨bb,0,none⟩)))):=fun ob=>(ST.out.later (EO.out ob)).set (by have:=SZ.out;rw[HP1.out];omega) (by have:=SZ.out;omega) k bb hlt
     have GCK:Hid (∀ob w9,Zah (fun b=>b=pr∨ZaJ ((wr.alloc ob).setCell ⟨g,k,none⟩ (.pointer (some ⟨bb,0,none⟩))) pr=some b) ((wr.alloc ob).setCell ⟨g,k,none⟩ (.pointer (some ⟨bb,0,none⟩))) w9→w9.cell? ⟨g,k,none⟩=some (.pointer (some ⟨bb,0,none⟩))∧w9.frozen? ⟨g,k,none⟩=false):=fun ob w9 hb=>by
      obtain⟨q1,q2⟩:=(SETS.out ob).gcell hb hlt
      refine⟨?_,q2⟩
      rw[q1]
      simp
     have gc:=fun o=>(GC.out o).1
     have gf:=fun o=>(GC.out o).2
     go_wp2_with (first
      |(go_at_call 31;(with_reducible refine(SC.out _ (EO.out _)).mono ?_);rintro e w7 ⟨rfl,hw7⟩;obtain rfl:=hw7.symm)
      |(go_at_call 26;(with_reducible refine(TK.out _ (SETS.out _)).mono ?_);rintro e w9 ⟨b9,hp9⟩;obtain⟨g9,f9⟩:=GCK.out _ _ b9;have B9:=zh b9;clear b9;rcases hp9 with⟨rfl,a9,rs',ok9,m9,v9⟩|⟨er,rs',x,ne9,rfl,ok9,m9,bx9,ae9⟩))
     ·have S9:=(SETS.out _).took (by have:=SZ.out;rw[HP1.out];omega) (by have:=SZ.out;rw[HP1.out];omega) (by have:=SZ.out;omega) (by simp;have:=HZ.out;omega) B9.out a9 v9 ok9 (fun y=>(m9 y).trans (by rw[ST.out.mem];exact(ZjP HX.out HK.out HE.out y).symm))
      go_roundw
      case rel=>
       refine⟨k+1,rs',by omega,by go_num,(S9.set (by have:=SZ.out;rw[HP1.out];omega) (by have:=SZ.out;omega) k b1 hlt).congr (fun i=>?_),?_⟩
       ·by_cases hik:i=k
        ·rw[if_pos hik]
        ·rw[if_neg hik,if_neg hik]
       ·have h1:=B9.out.size
        have h2:=HZ.out
        simp only[World.size_setCell,World.size_alloc] at h1 ⊢
        omega
      case measure=>simp[intOf];omega
     ·have XE:Ext w w9:=Zaw (SETS.out _).ext B9.out fun b hb q=>by
       have h1:=SZ.out
       rw[HP1.out] at hb
       rcases q with rfl|q
       ·omega
       ·have:=(SETS.out _).item b q;omega
      go_returns
      refine⟨XE,fB,M5.out,.inr ⟨er,rs',Zbj r x,ne9,rfl,ok9,fun y hy=>?_,⟨x,⟨k,l,HX.out,HK.out,HE.out,bx9⟩,rfl⟩,ae9⟩⟩
      rcases m9 y hy with q|⟨x',q1,q2⟩
      ·obtain⟨x',⟨i,l',_,q1⟩,q2⟩:=(ST.out.mem y).1 q
       exact⟨x',⟨i,l',q1⟩,q2⟩
      ·exact⟨x',⟨k,l,HX.out,HK.out,HE.out,q1⟩,q2⟩
   ·have q1:(l.kind != 1)=true:=by simpa using hk1
    have HK:=zh hk1
    clear hk1
    go_wp2
    go_roundw
    case rel=>exact⟨k+1,rs,by omega,by go_num,(ST.out.later (Zab zbr _)).skip HX.out (.inl HK.out),by simp;have:=HZ.out;omega⟩
    case measure=>simp[intOf];omega
  ·obtain rfl:k=nb:=by omega
   have hge:¬(k:Int)<(k:Int):=by omega
   have crb:wr.cell? ⟨pr+1,0,none⟩=some (.pointer (some ⟨pr,0,none⟩)):=(Zf8 ST.out.rb).1
   go_wp2
   go_returns
   refine⟨ST.out.ext,fB,M5.out,.inl ⟨pr,rs,rfl,ST.out.rows,ST.out.ok,fun y=>(ST.out.mem y).trans ⟨?_,?_⟩⟩⟩
   ·rintro⟨x',⟨i,l',_,q1⟩,q2⟩
    exact⟨x',⟨i,l',q1⟩,q2⟩
   ·rintro⟨x',⟨i,l',q0,q1⟩,q2⟩
    exact⟨x',⟨i,l',by have:=(zgs q0).1;rw[BL.out.2.1] at this;exact this,q0,q1⟩,q2⟩
