/- semi.Fresh where it may not be. -/
import Derived.Test.YtjfbjjmiobgjfaaGreatG44
set_option maxRecDepth 100000
set_option maxHeartbeats 8000000
namespace Go.Proofs.YtjfbjjmiobgjfaaGreat
open ChangeShapes WideShapes ChangeAt RowKit
open K (ZaG Zda ZaQ Zaq Zbl ZaR Zbw Zcm)
theorem ZqI (b:Nat)(w:World):(binOp .eql 35 (.pointer (some ⟨b,0,none⟩)) (.pointer none)).run Tryz.prog w=.ok (.bool false) w:=by kernel_rfl
theorem ZqJ (w:World):(binOp .eql 35 (.pointer none) (.pointer none)).run Tryz.prog w=.ok (.bool true) w:=by kernel_rfl
theorem Zf9 (r:ZaQ)(ah:Option Addr)(nh ch:Nat)(ab:Option Addr)(nb cb:Nat)(w:World)(hr:ZaR w r ah nh ch ab nb cb)(hv:(Zad r).length≤1000000):
  (∀W,Ext w W→Calls Tryz.prog 22 #[.agg #[.string r.head.pred,.slice ah nh ch]] W fun e w'=>(∃i:Int,e=.returned (.tuple #[.int .i64 i,.bool (r.head.terms.any Znd)]))∧Ext W w')∧(∀W,Ext w W→Calls Tryz.prog 23 #[.agg #[.string r.head.pred,.slice ah nh ch,.slice ab nb cb]] W fun e w'=>e=.returned (.int .i64 (Zap r))∧Ext W w')∧∀W,Ext (w.alloc (.cells #[.string r.head.pred,.slice ah nh ch,.slice ab nb cb] 27)) W→W.cell? ⟨w.heap.size,0,none⟩=some (.string r.head.pred)∧W.cell? ⟨w.heap.size,1,none⟩=some (.slice ah nh ch)∧W.cell? ⟨w.heap.size,2,none⟩=some (.slice ab nb cb):=by
 refine⟨fun W hW=>ZoT r.head ah nh ch W (hr.terms.keep hW),fun W hW=>Zio r ah nh ch ab nb cb W (hr.keep hW) hv,fun W hW=>?_⟩
 have h:=(hW.block w.heap.size (by simp)).trans (heap_alloc_new w _)
 exact⟨by simp[World.cell?,h],by simp[World.cell?,h],by simp[World.cell?,h]⟩
theorem Zm1 (r:ZaQ)(ah:Option Addr)(nh ch:Nat)(ab:Option Addr)(nb cb:Nat)(p1 p2:Value)(w:World)(hr:ZaR w r ah nh ch ab nb cb)(hv:(Zad r).length≤1000000)(hck:Zap r≠0):
  Calls Tryz.prog 7 #[.agg #[.string r.head.pred,.slice ah nh ch,.slice ab nb cb],p1,p2] w fun e w'=>e=.returned (.tuple #[.pointer none,.int .i64 (Zap r)])∧Ext w w':=by
 have EA:Hid (∀o,Ext w (w.alloc o)):=fun o=>Zab zbr o
 obtain⟨ag,ck,rc⟩:=Zf9 r ah nh ch ab nb cb w hr hv
 have CK:=zh ck
 have AG:=zh ag
 have RC:=zh rc
 have ne:(Zap r != 0)=true:=by simpa using hck
 obtain⟨c0,c1,c2⟩:=RC.out _ zbr
 generalize Zap r=E at CK ne ⊢
 generalize r.head.terms.any Znd=G at AG
 clear hr hv hck ag ck rc
 go_enter Tryz.func7,Tryz.ntmps7
 go_wp2_with (first
  |(go_at_call 22;(with_reducible refine(AG.out _ (EA.out _)).mono ?_);rintro e w2 ⟨⟨i2,rfl⟩,e2⟩;obtain⟨c0,c1,c2⟩:=RC.out _ e2)
  |(go_at_call 23;(with_reducible refine(CK.out _ (Zaa (EA.out _) e2)).mono ?_);rintro e w3 ⟨rfl,e3⟩))
 go_returns
 exact⟨rfl,Zaa (EA.out _) (Zaa e2 e3)⟩
theorem ZkR (r:ZaQ)(ah:Option Addr)(nh ch:Nat)(ab:Option Addr)(nb cb:Nat)(p1 p2:Value)(w:World)(hr:ZaR w r ah nh ch ab nb cb)(hv:(Zad r).length≤1000000)(hck:Zap r=0)(hag:r.head.terms.any Znd=true):
  Calls Tryz.prog 7 #[.agg #[.string r.head.pred,.slice ah nh ch,.slice ab nb cb],p1,p2] w fun e w'=>e=.returned (.tuple #[.pointer none,.int .i64 2])∧Ext w w':=by
 have EA:Hid (∀o,Ext w (w.alloc o)):=fun o=>Zab zbr o
 obtain⟨ag,ck,rc⟩:=Zf9 r ah nh ch ab nb cb w hr hv
 rw[hag] at ag
 rw[hck] at ck
 have CK:=zh ck
 have AG:=zh ag
 have RC:=zh rc
 obtain⟨c0,c1,c2⟩:=RC.out _ zbr
 clear hr hv hck hag ag ck rc
 go_enter Tryz.func7,Tryz.ntmps7
 go_wp2_with (first
  |(go_at_call 22;(with_reducible refine(AG.out _ (EA.out _)).mono ?_);rintro e w2 ⟨⟨i2,rfl⟩,e2⟩;obtain⟨c0,c1,c2⟩:=RC.out _ e2)
  |(go_at_call 23;(with_reducible refine(CK.out _ (Zaa (EA.out _) e2)).mono ?_);rintro e w3 ⟨rfl,e3⟩))
 go_returns
 exact⟨rfl,Zaa (EA.out _) (Zaa e2 e3)⟩
theorem ZkS (r:ZaQ)(ah:Option Addr)(nh ch:Nat)(ab:Option Addr)(nb cb:Nat)(p1 p2:Option Nat)(w:World)(hr:ZaR w r ah nh ch ab nb cb)(hv:(Zad r).length≤1000000)(hck:Zap r=0)(hag:r.head.terms.any Znd=false)(hp:p1=none∨p2=none):
  Calls Tryz.prog 7 #[.agg #[.string r.head.pred,.slice ah nh ch,.slice ab nb cb],.pointer (p1.map fun b=>⟨b,0,none⟩),.pointer (p2.map fun b=>⟨b,0,none⟩)] w fun e w'=>e=.returned (.tuple #[.pointer none,.int .i64 1])∧Ext w w':=by
 have EA:Hid (∀o,Ext w (w.alloc o)):=fun o=>Zab zbr o
 obtain⟨ag,ck,rc⟩:=Zf9 r ah nh ch ab nb cb w hr hv
 rw[hag] at ag
 rw[hck] at ck
 have CK:=zh ck
 have AG:=zh ag
 have RC:=zh rc
 have n1:=ZqI
 have n2:=ZqJ
 obtain⟨c0,c1,c2⟩:=RC.out _ zbr
 clear hr hv hck hag ag ck rc
 cases p1 with
 |none=>
  go_enter Tryz.func7,Tryz.ntmps7
  go_wp2_with (first
   |(go_at_call 22;(with_reducible refine(AG.out _ (EA.out _)).mono ?_);rintro e w2 ⟨⟨i2,rfl⟩,e2⟩;obtain⟨c0,c1,c2⟩:=RC.out _ e2)
   |(go_at_call 23;(with_reducible refine(CK.out _ (Zaa (EA.out _) e2)).mono ?_);rintro e w3 ⟨rfl,e3⟩))
  go_returns
  exact⟨rfl,Zaa (EA.out _) (Zaa e2 e3)⟩
 |some b=>
  obtain rfl:p2=none:=by rcases hp with h|h;cases h;exact h
  clear hp
  go_enter Tryz.func7,Tryz.ntmps7
  go_wp2_with (first
   |(go_at_call 22;(with_reducible refine(AG.out _ (EA.out _)).mono ?_);rintro e w2 ⟨⟨i2,rfl⟩,e2⟩;obtain⟨c0,c1,c2⟩:=RC.out _ e2)
   |(go_at_call 23;(with_reducible refine(CK.out _ (Zaa (EA.out _) e2)).mono ?_);rintro e w3 ⟨rfl,e3⟩))
  go_returns
  exact⟨rfl,Zaa (EA.out _) (Zaa e2 e3)⟩
theorem Zbo.low {w:World}{lo lo' bb:Nat}{f:ZaT}(h:Zbo w lo bb f)(hl:lo'≤lo):Zbo w lo' bb f:=by
 obtain⟨⟨h1,h2,h3,h4,h5,h6⟩,mb,m1,m2⟩:=h
 exact⟨⟨Nat.le_trans hl h1,h2,h3,h4,fun k x q=>⟨Nat.le_trans hl (h5 k x q).1,(h5 k x q).2⟩,h6⟩,mb,Nat.le_trans hl m1,m2⟩
def ZjT (xs:List Zb3)(w:World)(e:Ending)(w':World):Prop:=Ext w w'∧((Zcw (fun _=>none) xs).1≠0∧e=.returned (.tuple #[.pointer none,.pointer none,.bool true])∨(Zcw (fun _=>none) xs).1=0∧∃bb f db l,e=.returned (.tuple #[.pointer (some ⟨bb,0,none⟩),.pointer (some ⟨db,0,none⟩),.bool true])∧Zbo w' w.heap.size bb f∧Za2 f=(Zcw (fun _=>none) xs).2∧ZaU w' w.heap.size db l∧ZaV l=(Zcw (fun _=>none) xs).2∧l.length≤xs.length∧Ze0 l≤ZaZ xs)
theorem Zs1 (xs:List Zb3)(a:Option Addr)(n c:Nat)(w:World)(h:Zc2 w a n xs)(hn1:n≤999999)(hrn:ZaZ xs≤1000):
  Calls Tryz.prog 5 #[.slice a n c] w (ZjT xs w):=by
 have DF:=zh (ZnY xs a n c w h hn1 hrn)
 have CF:Hid (∀W,Ext w W→Calls Tryz.prog 20 #[.slice a n c] W (ZgB xs W)):=fun W e=>ZnT xs a n c W (h.keep e) hrn
 clear h hn1 hrn
 unfold ZgZ at DF
 unfold ZgB at CF
 unfold ZjT
 obtain⟨R,hR⟩:∃R,Zcw (fun _=>none) xs=R:=⟨_,rfl⟩
 rw[hR] at DF CF ⊢
 clear hR
 obtain⟨E,S⟩:=R
 simp only at DF CF ⊢
 by_cases hE:E=0
 ·have DG:Hid (Calls Tryz.prog 19 #[.slice a n c] w fun e w'=>Ext w w'∧∃bb l,e=.returned (.tuple #[.pointer (some ⟨bb,0,none⟩),.int .i64 0])∧ZaU w' w.heap.size bb l∧ZaV l=S∧l.length≤xs.length∧Ze0 l≤ZaZ xs):=DF.out.mono fun e w' h=>⟨h.1,h.2.elim (fun q=>absurd hE q.1) (fun q=>q.2)⟩
  have CG:Hid (∀W,Ext w W→Calls Tryz.prog 20 #[.slice a n c] W fun e w'=>Ext W w'∧∃bb f,e=.returned (.tuple #[.pointer (some ⟨bb,0,none⟩),.int .i64 0])∧Zbo w' W.heap.size bb f∧Za2 f=S):=fun W hW=>(CF.out W hW).mono fun e w' h=>⟨h.1,h.2.elim (fun q=>absurd hE q.1) (fun q=>q.2)⟩
  have HE:=zh hE
  clear DF CF hE
  go_enter Tryz.func5,Tryz.ntmps5
  go_wp2_with (first
   |(go_at_call 19;(with_reducible refine DG.out.mono ?_);rintro e w1 ⟨e1,db,l,rfl,hd⟩;have E1:=zh e1;have HD:=zh hd;clear e1 hd)
   |(go_at_call 20;(with_reducible refine(CG.out _ E1.out).mono ?_);rintro e w2 ⟨e2,bb,f,rfl,hf⟩;have E2:=zh e2;have HF:=zh hf;clear e2 hf)
   |fail)
  go_returns
  obtain⟨h1,h2,h3,h4⟩:=HD.out
  exact⟨Zaa E1.out E2.out,.inr ⟨HE.out,bb,f,db,l,rfl,HF.out.1.low E1.out.size,HF.out.2,h1.ext E2.out,h2,h3,h4⟩⟩
 ·have DG:Hid (Calls Tryz.prog 19 #[.slice a n c] w fun e w'=>Ext w w'∧e=.returned (.tuple #[.pointer none,.int .i64 E])):=DF.out.mono fun e w' h=>⟨h.1,h.2.elim (fun q=>q.2) (fun q=>absurd q.1 hE)⟩
  have CG:Hid (∀W,Ext w W→Calls Tryz.prog 20 #[.slice a n c] W fun e w'=>Ext W w'∧e=.returned (.tuple #[.pointer none,.int .i64 E])):=fun W hW=>(CF.out W hW).mono fun e w' h=>⟨h.1,h.2.elim (fun q=>q.2) (fun q=>absurd q.1 hE)⟩
  have HE:=zh hE
  clear DF CF hE
  go_enter Tryz.func5,Tryz.ntmps5
  go_wp2_with (first
   |(go_at_call 19;(with_reducible refine DG.out.mono ?_);rintro e w1 ⟨e1,rfl⟩;have E1:=zh e1;clear e1)
   |(go_at_call 20;(with_reducible refine(CG.out _ E1.out).mono ?_);rintro e w2 ⟨e2,rfl⟩;have E2:=zh e2;clear e2)
   |fail)
  go_returns
  exact⟨Zaa E1.out E2.out,.inl ⟨HE.out,rfl⟩⟩
theorem Zo4 (w:World):(binOp .eql 36 (.pointer none) (.pointer none)).run Tryz.prog w=.ok (.bool true) w:=by kernel_rfl
theorem Zhm (r:ZaQ)(ah:Option Addr)(nh ch:Nat)(ab:Option Addr)(nb cb:Nat)(w:World)(hr:ZaR w r ah nh ch ab nb cb)(hv:(Zad r).length≤1000000)(hck:Zap r=0):
  (∀o,Calls Tryz.prog 32 #[.agg #[.string r.head.pred,.slice ah nh ch,.slice ab nb cb]] (w.alloc o) fun e w'=>e=.returned (.int .i64 0)∧Ext (w.alloc o) w')∧(∀W,Ext w W→Calls Tryz.prog 33 #[.agg #[.string r.head.pred,.slice ah nh ch,.slice ab nb cb]] W fun e w'=>e=.returned (.bool (r.head.terms.any ZfY))∧Ext W w')∧(∀W,Ext (w.alloc (.cells #[.string r.head.pred,.slice ah nh ch,.slice ab nb cb] 27)) W→W.cell? ⟨w.heap.size,0,none⟩=some (.string r.head.pred)∧W.cell? ⟨w.heap.size,1,none⟩=some (.slice ah nh ch)∧W.cell? ⟨w.heap.size,2,none⟩=some (.slice ab nb cb)):=by
 refine⟨fun o=>?_,fun W hW=>Zjx r ah nh ch ab nb cb W (hr.keep hW),fun W hW=>?_⟩
 ·have:=ZgU r ah nh ch ab nb cb (w.alloc o) (hr.keep (Zab zbr o)) hv
  unfold Zb5 at this
  rw[hck] at this
  exact this
 ·have h:=(hW.block w.heap.size (by simp)).trans (heap_alloc_new w _)
  exact⟨by simp[World.cell?,h],by simp[World.cell?,h],by simp[World.cell?,h]⟩
theorem ZkT (r:ZaQ)(ah:Option Addr)(nh ch:Nat)(ab:Option Addr)(nb cb:Nat)(p1 p2:Value)(w:World)(hr:ZaR w r ah nh ch ab nb cb)(hv:(Zad r).length≤1000000)(hck:Zap r=0)(hag:r.head.terms.any ZfY=true):
  Calls Tryz.prog 8 #[ZeR r ah nh ch ab nb cb,p1,p2] w fun e w'=>e=.returned (.tuple #[.pointer none,.int .i64 2])∧Ext w w':=by
 have EA:Hid (∀o,Ext w (w.alloc o)):=fun o=>Zab zbr o
 obtain⟨ck,ag,rc⟩:=Zhm r ah nh ch ab nb cb w hr hv hck
 rw[hag] at ag
 have CK:=zh ck
 have AG:=zh ag
 have RC:=zh rc
 clear hr hv hck hag ck ag rc
 go_enter Tryz.func8,Tryz.ntmps8
 go_wp2_with (first
  |(go_at_call 32;(with_reducible refine(CK.out _).mono ?_);rintro e w2 ⟨rfl,e2⟩;obtain⟨c0,c1,c2⟩:=RC.out _ e2)
  |(go_at_call 33;(with_reducible refine(AG.out _ (Zaa (EA.out _) e2)).mono ?_);rintro e w3 ⟨rfl,e3⟩))
 go_returns
 exact⟨rfl,Zaa (EA.out _) (Zaa e2 e3)⟩
theorem ZkU (r:ZaQ)(ah:Option Addr)(nh ch:Nat)(ab:Option Addr)(nb cb:Nat)(p1 p2:Option Nat)(w:World)(hr:ZaR w r ah nh ch ab nb cb)(hv:(Zad r).length≤1000000)(hck:Zap r=0)(hag:r.head.terms.any ZfY=false)(hp:p1=none∨p2=none):
  Calls Tryz.prog 8 #[ZeR r ah nh ch ab nb cb,.pointer (p1.map fun b=>⟨b,0,none⟩),.pointer (p2.map fun b=>⟨b,0,none⟩)] w fun e w'=>e=.returned (.tuple #[.pointer none,.int .i64 1])∧Ext w w':=by
 have EA:Hid (∀o,Ext w (w.alloc o)):=fun o=>Zab zbr o
 obtain⟨ck,ag,rc⟩:=Zhm r ah nh ch ab nb cb w hr hv hck
 rw[hag] at ag
 have CK:=zh ck
 have AG:=zh ag
 have RC:=zh rc
 have n1:=Zo4
 have n2:=ZcU
 clear hr hv hck hag ck ag rc
 cases p1 with
 |none=>
  go_enter Tryz.func8,Tryz.ntmps8
  go_wp2_with (first
   |(go_at_call 32;(with_reducible refine(CK.out _).mono ?_);rintro e w2 ⟨rfl,e2⟩;obtain⟨c0,c1,c2⟩:=RC.out _ e2)
   |(go_at_call 33;(with_reducible refine(AG.out _ (Zaa (EA.out _) e2)).mono ?_);rintro e w3 ⟨rfl,e3⟩))
  go_returns
  exact⟨rfl,Zaa (EA.out _) (Zaa e2 e3)⟩
 |some b=>
  obtain rfl:p2=none:=by rcases hp with h|h;cases h;exact h
  clear hp
  go_enter Tryz.func8,Tryz.ntmps8
  go_wp2_with (first
   |(go_at_call 32;(with_reducible refine(CK.out _).mono ?_);rintro e w2 ⟨rfl,e2⟩;obtain⟨c0,c1,c2⟩:=RC.out _ e2)
   |(go_at_call 33;(with_reducible refine(AG.out _ (Zaa (EA.out _) e2)).mono ?_);rintro e w3 ⟨rfl,e3⟩))
  go_returns
  exact⟨rfl,Zaa (EA.out _) (Zaa e2 e3)⟩
def Zh7 (ar:Nat)(hs:List (List ByteArray))(w:World)(e:Ending)(w':World):Prop:=Ext w w'∧((Zcf ar [] hs).1≠0∧e=.returned (.tuple #[.pointer none,.int .i64 (Zcf ar [] hs).1])∨(Zcf ar [] hs).1=0∧∃po,e=.returned (.tuple #[.pointer (some ⟨po,0,none⟩),.int .i64 0])∧ZbH w' (po+1) po ar (Zcf ar [] hs).2)
theorem Zs2 (r:ZaQ)(ah:Option Addr)(nh ch:Nat)(ab:Option Addr)(nb cb:Nat)(lo1 b1 lo2 b2:Nat)(all last:List Za7)(w:World)(hr:ZaR w r ah nh ch ab nb cb)(hv:(Zad r).length≤100000)(hck:Zap r=0)(hag:r.head.terms.any ZfY=false)(h1:ZaU w lo1 b1 all)(h2:ZaU w lo2 b2 last)(hl1:all.length≤1000000)(hl2:last.length≤1000000)(hnh:nh≤64)(hnb:nb≤1000)(hout:(ZbS r all).length≤262144)(hxl:∀x∈ZbS r all,x.length=(Zad r).length):
  Calls Tryz.prog 8 #[ZeR r ah nh ch ab nb cb,.pointer (some ⟨b1,0,none⟩),.pointer (some ⟨b2,0,none⟩)] w (Zh7 nh (ZbL r all last (ZbS r all)) w):=by
 have EA:Hid (∀o,Ext w (w.alloc o)):=fun o=>Zab zbr o
 obtain⟨ck,ag,rc⟩:=Zhm r ah nh ch ab nb cb w hr (by omega) hck
 rw[hag] at ag
 have CK:=zh ck
 have AG:=zh ag
 have RC:=zh rc
 have HR:=zh hr
 have HCK:=zh hck
 have HV:=zh hv
 have H1:=zh h1
 have H2:=zh h2
 have HXL:=zh hxl
 have n2:=ZcU
 have EC:Hid (∀W,Ext w W→Calls Tryz.prog 35 #[ZeR r ah nh ch ab nb cb,.pointer (some ⟨b1,0,none⟩)] W fun e w'=>∃v,e=.returned v∧Zdo W.heap.size w' (ZbS r all) v∧Ext W w'):=fun W hW=>ZtM r ah nh ch ab nb cb lo1 b1 all W (hr.keep hW) (by omega) (h1.ext hW) hl1 hck hnb (by omega)
 obtain⟨L,hL⟩:∃L,ZbS r all=L:=⟨_,rfl⟩
 rw[hL] at EC hout HXL ⊢
 obtain⟨R,hR⟩:∃R,R=Zcf nh [] (ZbL r all last L):=⟨_,rfl⟩
 have FIN:=zh hR
 have HOUT:=zh hout
 unfold Zh7
 rw[←hR]
 clear hr hv hck hag ck ag rc h1 h2 hxl hL hR hout
 go_enter Tryz.func8,Tryz.ntmps8
 go_wp2_with (first
  |(go_at_call 32;(with_reducible refine(CK.out _).mono ?_);rintro e w2 ⟨rfl,e2⟩;obtain⟨c0,c1,c2⟩:=RC.out _ e2)
  |(go_at_call 33;(with_reducible refine(AG.out _ (Zaa (EA.out _) e2)).mono ?_);rintro e w3 ⟨rfl,e3⟩;obtain⟨d0,d1,d2⟩:=RC.out _ (Zaa e2 e3))
  |(go_at_call 34;(with_reducible refine(ZfQ nh hnh _).mono ?_);rintro e w4 ⟨rfl,v4,t4,e4,z4⟩;obtain⟨f0,f1,f2⟩:=RC.out _ (Zaa e2 (Zaa e3 e4)))
  |(go_at_call 35;(with_reducible refine(EC.out _ (Zaa (EA.out _) (Zaa e2 (Zaa e3 e4)))).mono ?_);rintro e w5 ⟨v5,rfl,⟨us5,o5,r5⟩,e5⟩;obtain⟨a5,c5,rfl,_⟩:=Zag o5))
 have PZ:Hid (w3.heap.size+1≤w5.heap.size):=by have:=e5.size;show _≤_;omega
 have P2:Hid (w2.heap.size≤w3.heap.size):=e3.size
 have EW2:Hid (Ext w w2):=Zaa (EA.out _) e2
 have E25:Hid (Ext w2 w5):=Zaa e3 (Zaa e4 e5)
 have RB:Hid (∀W,Ext w2 W→W.cell? ⟨w.heap.size,0,none⟩=some (.string r.head.pred)∧W.cell? ⟨w.heap.size,1,none⟩=some (.slice ah nh ch)∧W.cell? ⟨w.heap.size,2,none⟩=some (.slice ab nb cb)):=fun W hW=>RC.out W (Zaa e2 hW)
 have RL:Hid (ZfW w5 a5 c5 L):=Zci.rowsL ⟨us5,o5,r5,e5⟩ HOUT.out
 have V5:=zh (v4.ext e5)
 have T5:=zh (t4.ext e5)
 obtain⟨po,hpo⟩:∃po,w3.heap.size=po:=⟨_,rfl⟩
 obtain⟨N,hN⟩:∃N,L.length=N:=⟨_,rfl⟩
 have HN:=zh hN
 rw[hpo] at PZ P2 V5 T5 ⊢
 rw[hN] at HOUT ⊢
 clear hpo hN v4 t4 o5 r5 f0 f1 f2 d0 d1 d2 c0 c1 c2 z4
 go_wp2
 go_loopw [12] (fun i wj=>∃k:Nat,k≤N∧i=.int .i64 (k:Int)∧∃rs,ZbH wj (po+1) po nh rs∧Ty wj po 105∧rs.length≤65536∧R=Zcf nh rs (ZbL r all last (L.drop k))∧Zah (fun b=>b=po) w5 wj∧Ext w2 wj) (fun i _=>N-(intOf i).toNat)
 case atStart=>exact⟨0,by omega,rfl,[],V5.out,T5.out,by simp,FIN.out,Zah.refl _ _,E25.out⟩
 case round=>
  obtain⟨k,hk,rfl,rs,hv,ht,hl,hr,hb,hE⟩:=hrel
  have V:=zh hv
  have T:=zh ht
  have HL2:=zh hl
  have HR2:=zh hr
  have HB:=zh hb
  have E2:=zh hE
  have EW:=zh (Zaa EW2.out hE)
  have NLT:=zh HOUT.out
  have NN:=HOUT.out
  obtain⟨k0,k1,k2⟩:=RB.out _ hE
  have RLj:Hid (ZfW wr a5 c5 L):=RL.out.but hb (by rintro b rfl;exact⟨fun h=>T5.out.ne h (by decide) rfl,fun h=>T5.out.ne h (by decide) rfl⟩)
  clear hv ht hl hr hb hE
  by_cases hlt:k<N
  ·have hki:(k:Int)<(N:Int):=by omega
   obtain⟨x,hx⟩:∃x,L[k]? =some x:=⟨_,zge (by have:=HN.out;omega)⟩
   obtain⟨g,ar,cr,rfl,hg,hs,hz⟩:=RLj.out.at hx
   have hxl:=HXL.out x (zmg hx)
   have HD:Hid (L.drop k=x::L.drop (k+1)):=by
    show _=_
    obtain⟨hlt2,he⟩:=List.getElem?_eq_some_iff.mp hx
    rw[←he];exact List.drop_eq_getElem_cons hlt2
   obtain⟨m,hm⟩:∃m,x.length=m:=⟨_,rfl⟩
   rw[hm] at hg hs hz hxl
   have KK:Hid (∀W,Ext wr W→W.cell? ⟨w.heap.size,0,none⟩=some (.string r.head.pred)∧W.cell? ⟨w.heap.size,1,none⟩=some (.slice ah nh ch)∧W.cell? ⟨w.heap.size,2,none⟩=some (.slice ab nb cb)∧W.cell? ⟨g,k,none⟩=some (.slice ar m cr)):=fun W hW=>by
    obtain⟨z0,z1,z2⟩:=RB.out _ (Zaa E2.out hW)
    exact⟨z0,z1,z2,Zac hW hg⟩
   have TC:Hid (∀W,Ext wr W→Calls Tryz.prog 36 #[.agg #[.string r.head.pred,.slice ah nh ch,.slice ab nb cb],.slice ar m cr,.pointer (some ⟨b1,0,none⟩),.pointer (some ⟨b2,0,none⟩)] W fun e w'=>e=.returned (.bool (Zfk r x all last))∧Ext W w'):=fun W hW=>
    Zn7 r ah nh ch ab nb cb x ar m cr lo1 b1 lo2 b2 all last W (HR.out.keep (Zaa EW.out hW)) (by have:=HV.out;omega) HCK.out (hs.keep hW) hz hxl.symm (by have:=HV.out;omega) (H1.out.ext (Zaa EW.out hW)) (H2.out.ext (Zaa EW.out hW)) hl1 hl2
   have HC:Hid (∀W,Ext wr W→Calls Tryz.prog 37 #[.agg #[.string r.head.pred,.slice ah nh ch,.slice ab nb cb],.slice ar m cr] W fun e w'=>∃v,e=.returned (.tuple #[v,.int .i64 0])∧w'.ownsRow W.heap.size 9 1 v (Zfi r x).length ((Zfi r x).map Value.string)∧Ext W w'):=fun W hW=>
    ZtO r ah nh ch ab nb cb x ar m cr W (HR.out.keep (Zaa EW.out hW)) (by have:=HV.out;omega) HCK.out (hs.keep hW) hxl.symm hnh
   obtain⟨q0,q1,q2,q3⟩:=KK.out _ zbr
   obtain⟨j0,j1,j2,j3⟩:=KK.out _ (Zaf zbr)
   clear hg hs hz hx hxl hm k0 k1 k2
   obtain⟨TT,hT⟩:∃TT,Zfk r x all last=TT:=⟨_,rfl⟩
   have FH:Hid (ZbL r all last (L.drop k)=if TT=true then Zfi r x::ZbL r all last (L.drop (k+1)) else ZbL r all last (L.drop (k+1))):=by
    show _=_
    rw[HD.out,ZkD,hT]
   rw[hT] at TC
   clear hT
   cases TT with
   |false=>
    go_wp2
    go_region_held3 (fun w'=>w'.cell? ⟨w.heap.size,0,none⟩=some (.string r.head.pred)∧w'.cell? ⟨w.heap.size,1,none⟩=some (.slice ah nh ch)∧w'.cell? ⟨w.heap.size,2,none⟩=some (.slice ab nb cb)∧w'.cell? ⟨g,k,none⟩=some (.slice ar m cr))
     (with_reducible (first|go_keep|exact⟨q0,q1,q2,q3⟩|exact⟨j0,j1,j2,j3⟩|exact KK.out _ e7))
     (first
      |(go_at_call 36;(with_reducible refine(TC.out _ (Zaf zbr)).mono ?_);rintro e w6 ⟨rfl,e6⟩;have e7:=Zaa (Zaf (Below.refl _ wr)) e6)
      |fail)
    go_wp2
    go_roundw
    case rel=>exact⟨k+1,by omega,by go_num,rs,V.out.ext e7,T.out.ext e7,HL2.out,by rw[HR2.out,FH.out];rfl,HB.out.ext e7,Zaa E2.out e7⟩
    case measure=>simp[intOf];omega
   |true=>
    go_wp2
    go_region_held3 (fun w'=>w'.cell? ⟨w.heap.size,0,none⟩=some (.string r.head.pred)∧w'.cell? ⟨w.heap.size,1,none⟩=some (.slice ah nh ch)∧w'.cell? ⟨w.heap.size,2,none⟩=some (.slice ab nb cb)∧w'.cell? ⟨g,k,none⟩=some (.slice ar m cr))
     (with_reducible (first|go_keep|exact⟨q0,q1,q2,q3⟩|exact⟨j0,j1,j2,j3⟩|exact KK.out _ e7))
     (first
      |(go_at_call 36;(with_reducible refine(TC.out _ (Zaf zbr)).mono ?_);rintro e w6 ⟨rfl,e6⟩;have e7:=Zaa (Zaf (Below.refl _ wr)) e6)
      |fail)
    have HDL:Hid ((Zfi r x).length≤64):=by
     have h:=Zfj (Zad r) x r.head.terms []
     have h2:=HR.out.terms.2.1
     show _≤_
     simp only[List.length_nil] at h
     unfold Zfi
     omega
    obtain⟨u0,u1,u2,u3⟩:=KK.out _ e7
    obtain⟨y0,y1,y2,y3⟩:=KK.out _ (Zaf e7)
    have SZ:Hid (∀W,Ext w6 W→po+1≤W.heap.size):=fun W hW=>by
     have h1:=HB.out.size
     have h2:=(Zaa e7 hW).size
     have h3:=PZ.out
     omega
    have QN:Hid (∀W,Ext wr W→w.heap.size≤W.heap.size∧w.heap.size≤po):=fun W hW=>by
     have h1:=(Zaa EW.out hW).size
     have h2:=EW2.out.size
     have h3:=P2.out
     exact⟨h1,by omega⟩
    go_wp2
    go_region_held3 (fun w'=>w'.cell? ⟨w.heap.size,0,none⟩=some (.string r.head.pred)∧w'.cell? ⟨w.heap.size,1,none⟩=some (.slice ah nh ch)∧w'.cell? ⟨w.heap.size,2,none⟩=some (.slice ab nb cb)∧w'.cell? ⟨g,k,none⟩=some (.slice ar m cr))
     (with_reducible (first|go_keep|exact⟨u0,u1,u2,u3⟩|exact⟨y0,y1,y2,y3⟩|exact KK.out _ e10))
     (first
      |(go_at_call 37;(with_reducible refine(HC.out _ (Zaf e7)).mono ?_);rintro e w8 ⟨v8,rfl,o8,e8⟩;obtain⟨a8,c8,rfl,_⟩:=Zag o8;have e9:=Zaa (Zaf (Below.refl _ w6)) e8;have e10:=Zaa e7 e9)
      |fail)
    have SX:=zh (ZaL o8 (Nat.le_trans HDL.out (by decide)))
    have CO:=zh (ZaF o8)
    have FH2:Hid (R=Zcf nh rs (Zfi r x::ZbL r all last (L.drop (k+1)))):=by show _=_;rw[HR2.out,FH.out];rfl
    obtain⟨t,ht⟩:∃t,Zfi r x=t:=⟨_,rfl⟩
    rw[ht] at SX CO FH2 ⊢
    obtain⟨nt,hnt⟩:∃nt,t.length=nt:=⟨_,rfl⟩
    rw[hnt] at SX CO ⊢
    have AD:=zh (ZtP (V.out.ext e10) HL2.out hnh SX.out CO.out.2 (SZ.out _ e9))
    obtain⟨E,hE⟩:∃E,Zjj nh rs t=E:=⟨_,rfl⟩
    have FH3:Hid (R=if E=0 then Zcf nh (Zjk nh rs t) (ZbL r all last (L.drop (k+1))) else (E,rs)):=by
     show _=_
     rw[FH2.out,Zcf,hE]
    rw[hE] at AD
    clear ht hnt hE o8
    by_cases hE0:E=0
    ·subst hE0
     go_wp2_with (go_at_call 38;(with_reducible refine AD.out.mono ?_);rintro e w9 ⟨⟨bq,rfl⟩,v9,b9,t9⟩)
     go_roundw
     case rel=>exact⟨k+1,by omega,by go_num,Zjk nh rs t,v9,t9 _ (T.out.ext e10),ZlE HL2.out,by rw[FH3.out];rfl,(HB.out.ext e10).trans b9,Zaw (Zaa E2.out e10) b9 (fun b hb q=>by have:=P2.out;omega)⟩
     case measure=>simp[intOf];omega
    ·have q9:(E != 0)=true:=by simpa using hE0
     go_wp2_with (go_at_call 38;(with_reducible refine AD.out.mono ?_);rintro e w9 ⟨⟨bq,rfl⟩,v9,b9,t9⟩)
     go_returns
     have FE:R=(E,rs):=by rw[FH3.out,if_neg hE0]
     refine⟨Zaw (Zaa EW.out e10) b9 (fun b hb q=>by have:=(QN.out _ e10).2;omega),.inl ⟨by rw[FE];exact hE0,?_⟩⟩
     rw[FE]
     rfl
  ·obtain rfl:k=N:=by omega
   have hge:¬(k:Int)<(k:Int):=by omega
   have FR:Hid (R=(0,rs)):=by
    show _=_
    rw[HR2.out,List.drop_of_length_le (by have:=HN.out;omega)]
    rfl
   go_wp2
   go_returns
   refine⟨EW.out,.inr ⟨by rw[FR.out],po,rfl,?_⟩⟩
   rw[FR.out]
   exact V.out
structure Zkb where
 bb:Nat
 f:ZaT
 db:Nat
 l:List Za7
abbrev bP (o:Option Zkb):Value:=.pointer (o.map fun x=>⟨x.bb,0,none⟩)
abbrev dP (o:Option Zkb):Value:=.pointer (o.map fun x=>⟨x.db,0,none⟩)
structure Zc7 (W:World)(lo:Nat)(xs:List Zb3)(x:Zkb):Prop where
 b:Zbo W lo x.bb x.f
 d:ZaU W lo x.db x.l
 s:ZiU xs x.f x.l
 len:x.l.length≤999999
 few:Ze0 x.l≤400
theorem Zc7.ext {W W':World}{lo:Nat}{xs:List Zb3}{x:Zkb}(h:Zc7 W lo xs x)(e:Ext W W'):Zc7 W' lo xs x:=⟨h.b.ext e,h.d.ext e,h.s,h.len,h.few⟩
theorem Zc7.up {W:World}{lo:Nat}{xs:List Zb3}{x:Zkb}(h:Zc7 W lo xs x):(x.l.map (·.name)).Pairwise fun x y=>ltB x y=true:=by
 rw[List.pairwise_map]
 exact h.d.up
def Zkc (r:ZaQ)(nh:Nat)(oa ol:Option Zkb):Int×Option (List (List ByteArray)):=if Zap r≠0 then (Zap r,none) else if r.head.terms.any ZfY=true then (2,none) else match oa,ol with
 |some a,some l=>if (Zcf nh [] (ZbL r a.l l.l (ZbS r a.l))).1≠0 then ((Zcf nh [] (ZbL r a.l l.l (ZbS r a.l))).1,none) else (0,some (Zcf nh [] (ZbL r a.l l.l (ZbS r a.l))).2)
 |_,_=>(1,none)
theorem ZrG {r:ZaQ}{nh:Nat}{oa ol:Option Zkb}(h:Zap r≠0):Zkc r nh oa ol=(Zap r,none):=by
 unfold Zkc
 rw[if_pos h]
theorem Zo5 {r:ZaQ}{nh:Nat}{oa ol:Option Zkb}(h:Zap r=0)(ha:r.head.terms.any ZfY=true):Zkc r nh oa ol=(2,none):=by
 unfold Zkc
 rw[if_neg (by omega),if_pos ha]
theorem Zo6 {r:ZaQ}{nh:Nat}{oa ol:Option Zkb}(h:Zap r=0)(ha:r.head.terms.any ZfY=false)(ho:oa=none∨ol=none):Zkc r nh oa ol=(1,none):=by
 unfold Zkc
 rw[if_neg (by omega),if_neg (by rw[ha];simp)]
 rcases ho with rfl|rfl
 ·rfl
 ·cases oa <;> rfl
theorem Zl4 {r:ZaQ}{nh:Nat}{a l:Zkb}(h:Zap r=0)(ha:r.head.terms.any ZfY=false):Zkc r nh (some a) (some l)=if (Zcf nh [] (ZbL r a.l l.l (ZbS r a.l))).1≠0 then ((Zcf nh [] (ZbL r a.l l.l (ZbS r a.l))).1,none) else (0,some (Zcf nh [] (ZbL r a.l l.l (ZbS r a.l))).2):=by
 unfold Zkc
 rw[if_neg (by omega),if_neg (by rw[ha];simp)]
def Zu7 (nh:Nat)(an:Int×Option (List (List ByteArray)))(w:World)(e:Ending)(w':World):Prop:=Ext w w'∧(an.2=none∧e=.returned (.tuple #[.pointer none,.int .i64 an.1])∨∃rows pr,an=(0,some rows)∧e=.returned (.tuple #[.pointer (some ⟨pr,0,none⟩),.int .i64 0])∧Zay w' (pr+1) pr nh rows∧Zbs nh rows)
def Zu8 (nh:Nat)(an:Int×Option (List (List ByteArray)))(w:World)(e:Ending)(w':World):Prop:=Ext w w'∧(an.2=none∧e=.returned (.tuple #[.pointer none,.int .i64 an.1])∨∃rows pr,an=(0,some rows)∧e=.returned (.tuple #[.pointer (some ⟨pr,0,none⟩),.int .i64 0])∧ZbH w' (pr+1) pr nh rows)
theorem ZqK (r:ZaQ)(ah:Option Addr)(nh ch:Nat)(ab:Option Addr)(nb cb:Nat)(lo lo2:Nat)(xa xl:List Zb3)(oa ol:Option Zkb)(w:World)(hr:ZaR w r ah nh ch ab nb cb)(hv:(Zad r).length≤1000000)(hnb:nb≤6)(ha:∀x,oa=some x→Zc7 w lo xa x)(hl:∀x,ol=some x→Zc7 w lo2 xl x):
  Calls Tryz.prog 7 #[.agg #[.string r.head.pred,.slice ah nh ch,.slice ab nb cb],bP oa,bP ol] w (Zu7 nh (Zkc r nh oa ol) w):=by
 by_cases hck:Zap r=0
 ·by_cases hag:r.head.terms.any ZfY=true
  ·refine(ZkR r ah nh ch ab nb cb (bP oa) (bP ol) w hr hv hck hag).mono fun e w' h=>?_
   rw[Zo5 hck hag]
   exact⟨h.2,.inl ⟨rfl,h.1⟩⟩
  ·have hag:r.head.terms.any ZfY=false:=by simpa using hag
   have nil:oa=none∨ol=none→Calls Tryz.prog 7 #[.agg #[.string r.head.pred,.slice ah nh ch,.slice ab nb cb],bP oa,bP ol] w (Zu7 nh (Zkc r nh oa ol) w):=fun ho=>by
    have:=ZkS r ah nh ch ab nb cb (oa.map (·.bb)) (ol.map (·.bb)) w hr hv hck hag (ho.elim (fun e=>.inl (by rw[e];rfl)) fun e=>.inr (by rw[e];rfl))
    rw[Option.map_map,Option.map_map] at this
    refine this.mono fun e w' h=>?_
    rw[Zo6 hck hag ho]
    exact⟨h.2,.inl ⟨rfl,h.1⟩⟩
   cases oa with
   |none=>exact nil (.inl rfl)
   |some a=>
    cases ol with
    |none=>exact nil (.inr rfl)
    |some l=>
     have HA:=ha a rfl
     have HL:=hl l rfl
     refine(ZsY r ah nh ch ab nb cb lo a.bb lo2 l.bb a.f l.f (l.l.map (·.name)) w hr hv hck hag (Zl3 hck hag) (by omega) HA.b HL.b (Zhl HL.s.eq) HL.s.named (by rw[List.length_map];have:=HL.len;omega) HL.up (by rw[Zut HL.s.eq HL.d.up];have:=HL.few;omega)).mono fun e w' h=>?_
     obtain⟨h1,fB,h2,h3⟩:=h
     have hlen:r.head.terms.length=nh:=hr.terms.2.1
     obtain⟨s1,s2⟩:=ZmZ HA.s.eq HL.s.eq hck hag hlen h2 (fun k q hq=>by
      unfold Zan at hq
      cases hf:a.f k with
      |none=>rw[hf] at hq;cases hq
      |some y=>
       rw[hf] at hq
       exact((HA.b.r.rel k y hf).2.2.2.row q hq).2)
     rw[Zl4 hck hag]
     refine⟨h1,?_⟩
     rcases h3 with⟨pr,rows,q1,q2,q3,q4⟩|⟨er,rows,y,q1,q2,q3,q4,q5,q6⟩
     ·obtain⟨t1,t2⟩:=s1 rows q3 q4
      rw[if_neg (by rw[t1];simp),t2]
      exact .inr ⟨rows,pr,rfl,q1,q2,q3⟩
     ·have t1:=s2 er rows y q1 q3 q4 q5 q6
      rw[if_pos (by rw[t1];exact q1),t1]
      exact .inl ⟨rfl,q2⟩
 ·refine(Zm1 r ah nh ch ab nb cb (bP oa) (bP ol) w hr hv hck).mono fun e w' h=>?_
  rw[ZrG hck]
  exact⟨h.2,.inl ⟨rfl,h.1⟩⟩
theorem ZqL (r:ZaQ)(ah:Option Addr)(nh ch:Nat)(ab:Option Addr)(nb cb:Nat)(lo lo2:Nat)(xa xl:List Zb3)(oa ol:Option Zkb)(w:World)(hr:ZaR w r ah nh ch ab nb cb)(hv:(Zad r).length≤1000000)(hnb:nb≤6)(hf:Zdk r xa)(ha:∀x,oa=some x→Zc7 w lo xa x)(hl:∀x,ol=some x→Zc7 w lo2 xl x):
  Calls Tryz.prog 8 #[.agg #[.string r.head.pred,.slice ah nh ch,.slice ab nb cb],dP oa,dP ol] w (Zu8 nh (Zkc r nh oa ol) w):=by
 by_cases hck:Zap r=0
 ·by_cases hag:r.head.terms.any ZfY=true
  ·refine(ZkT r ah nh ch ab nb cb (dP oa) (dP ol) w hr hv hck hag).mono fun e w' h=>?_
   rw[Zo5 hck hag]
   exact⟨h.2,.inl ⟨rfl,h.1⟩⟩
  ·have hag:r.head.terms.any ZfY=false:=by simpa using hag
   have nil:oa=none∨ol=none→Calls Tryz.prog 8 #[.agg #[.string r.head.pred,.slice ah nh ch,.slice ab nb cb],dP oa,dP ol] w (Zu8 nh (Zkc r nh oa ol) w):=fun ho=>by
    have:=ZkU r ah nh ch ab nb cb (oa.map (·.db)) (ol.map (·.db)) w hr hv hck hag (ho.elim (fun e=>.inl (by rw[e];rfl)) fun e=>.inr (by rw[e];rfl))
    rw[Option.map_map,Option.map_map] at this
    refine this.mono fun e w' h=>?_
    rw[Zo6 hck hag ho]
    exact⟨h.2,.inl ⟨rfl,h.1⟩⟩
   cases oa with
   |none=>exact nil (.inl rfl)
   |some a=>
    cases ol with
    |none=>exact nil (.inr rfl)
    |some l=>
     have HA:=ha a rfl
     have HL:=hl l rfl
     have hlen:r.head.terms.length=nh:=hr.terms.2.1
     have hbl:r.body.length=nb:=hr.body.2.1
     refine(Zs2 r ah nh ch ab nb cb lo a.db lo2 l.db a.l l.l w hr (by have:=Zm0 hck (by omega);omega) hck hag HA.d HL.d (by have:=HA.len;omega) (by have:=HL.len;omega) (by have:=(Zdy hck).1;omega) (by omega) (HA.s.few hf) (fun x hx=>Zew hx)).mono fun e w' h=>?_
     rw[Zl4 hck hag]
     refine⟨h.1,?_⟩
     rcases h.2 with⟨q1,q2⟩|⟨q1,po,q2,q3⟩
     ·rw[if_pos q1]
      exact .inl ⟨rfl,q2⟩
     ·rw[if_neg (by rw[q1];simp)]
      exact .inr ⟨_,po,rfl,q2,q3⟩
 ·refine(ZmE r ah nh ch ab nb cb (dP oa) (dP ol) w hr hv hck).mono fun e w' h=>?_
  rw[ZrG hck]
  exact⟨h.2,.inl ⟨rfl,h.1⟩⟩
theorem Zl5 (xs:List Zb3)(a:Option Addr)(n c:Nat)(w:World)(h:Zc2 w a n xs)(hn1:n≤999999)(hrn:ZaZ xs≤400):
  Calls Tryz.prog 5 #[.slice a n c] w fun e w'=>Ext w w'∧∃o,e=.returned (.tuple #[bP o,dP o,.bool true])∧∀x,o=some x→Zc7 w' w.heap.size xs x:=by
 refine(Zs1 xs a n c w h hn1 (by omega)).mono fun e w' q=>⟨q.1,?_⟩
 rcases q.2 with⟨_,q2⟩|⟨_,bb,f,db,l,q2,q3,q4,q5,q6,q7,q8⟩
 ·exact⟨none,q2,fun x hx=>by cases hx⟩
 ·refine⟨some ⟨bb,f,db,l⟩,q2,fun x hx=>?_⟩
  cases hx
  have:=h.2.1
  exact⟨q3,q5,⟨q4,q6⟩,by show l.length≤_;omega,by show Ze0 l≤_;omega⟩
