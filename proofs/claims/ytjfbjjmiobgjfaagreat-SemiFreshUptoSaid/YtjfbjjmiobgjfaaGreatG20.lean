/- The calls of tuple.Base: NewBase, of, Len, Declare, Add. -/
import Derived.Test.YtjfbjjmiobgjfaaGreatG19
set_option maxRecDepth 100000
set_option maxHeartbeats 8000000
namespace Go.Proofs.YtjfbjjmiobgjfaaGreat
open ChangeShapes WideShapes ChangeAt RowKit
theorem ZnJ (w:World):(zeroValue 40).run Tryz.prog w=.ok (.pointer none) w:=by kernel_rfl
theorem Zjn (w:World):
  Calls Tryz.prog 50 #[] w fun e w'=>e=.returned (.pointer (some ⟨w.heap.size+1,0,none⟩))∧Zbo w' w.heap.size (w.heap.size+1) (fun _=>none)∧Ext w w'∧w'.cell? ⟨w.heap.size+1,1,none⟩=some (.int .i64 0):=by
 have hmm:=@run_makeMap Tryz.prog
 go_enter Tryz.func50,Tryz.ntmps50
 go_wp2
 go_returns
 have hh:((w.alloc (.map #[] 0)).alloc (.cells #[.map (some w.heap.size),.int .i64 0] 95)).heap[w.heap.size+1]? =some (.cells #[.map (some w.heap.size),.int .i64 0] 95 (0,0)):=by
  have:=heap_alloc_new (w.alloc (.map #[] 0)) (.cells #[.map (some w.heap.size),.int .i64 0] 95)
  simpa using this
 have e1:Ext w ((w.alloc (.map #[] 0)).alloc (.cells #[.map (some w.heap.size),.int .i64 0] 95)):=Zab (Zab zbr _) _
 have e2:K.ZhA ((w.alloc (.map #[] 0)).alloc (.cells #[.map (some w.heap.size),.int .i64 0] 95)) w.heap.size (fun _=>none):=(K.ZhA.made w).ext (Zab zbr _)
 generalize (w.alloc (.map #[] 0)).alloc (.cells #[.map (some w.heap.size),.int .i64 0] 95)=W at hh e1 e2 ⊢
 exact⟨by simp,⟨⟨by omega,⟨_,_,hh⟩,⟨0,by simp[World.cell?,hh]⟩,by simp[World.frozen?,hh],fun k x h=>by simp at h,fun k k' x x' h=>by simp at h⟩,w.heap.size,Nat.le_refl _,by simp[World.cell?,hh],e2⟩,e1,by simp[World.cell?,hh]⟩
def ZbA (k:ByteArray):Bool:=decide (1≤k.size)&&decide (k.size≤4096)
theorem ZnK (k:ByteArray)(w:World):Calls Tryz.prog 97 #[.string k] w fun e w'=>e=.returned (.bool (ZbA k))∧w'=w:=by
 obtain⟨b,hb⟩:∃b,decide ((1:Int)≤(k.size:Int))=b:=⟨_,rfl⟩
 obtain⟨c,hc⟩:∃c,decide ((k.size:Int)≤(4096:Int))=c:=⟨_,rfl⟩
 have HQ:Hid (ZbA k=(b&&c)):=by
  show _=_
  unfold ZbA
  rw[←hb,←hc]
  congr 1 <;> simp only[decide_eq_decide] <;> omega
 cases b <;> cases c
 all_goals
  go_enter Tryz.func97,Tryz.ntmps97
  go_wp2
  go_returns
  exact⟨by rw[HQ.out];rfl,rfl⟩
abbrev Zmw (x:Option (Nat×Nat×List (List ByteArray))):Value:=.pointer (x.map fun x=>⟨x.1,0,none⟩)
theorem Zbo.look {w:World}{lo bb:Nat}{f:ZaT}(h:Zbo w lo bb f)(k:ByteArray):∃mb,w.cell? ⟨bb,0,none⟩=some (.map (some mb))∧(Instr.lookup 93 (.map (some mb)) (.string k) false).run Tryz.prog w=.ok (Zmw (f k)) w:=by
 obtain⟨mb,_,h2,h3⟩:=h.m
 refine⟨mb,h2,?_⟩
 have hl:=K.ZpU (P:=Tryz.prog) (t:=93) h3 Tryz.underlying93 Tryz.underlying9 (ZnJ _) k false
 rw[hl]
 simp only[Bool.false_eq_true,if_false]
 cases f k <;> rfl
theorem ZuJ (lo bb:Nat)(f:ZaT)(k:ByteArray)(w:World)(h:Zbo w lo bb f):Calls Tryz.prog 73 #[.pointer (some ⟨bb,0,none⟩),.string k] w fun e w'=>e=.returned (Zmw (f k))∧w'=w:=by
 obtain⟨mb,h1,hl⟩:=h.look k
 clear h
 go_enter Tryz.func73,Tryz.ntmps73
 go_wp2
 go_returns
 exact⟨rfl,rfl⟩
theorem ZtG (mb:Nat)(w:World):(binOp .eql 93 (.map (some mb)) (.map none)).run Tryz.prog w=.ok (.bool false) w:=by kernel_rfl
theorem ZnL (lo bb pb:Nat)(f:ZaT)(m:ByteArray→Option Nat)(k:ByteArray)(w:World)(h:ZbZ w lo bb f)(hm:Zb0 w lo bb m):Calls Tryz.prog 98 #[.pointer (some ⟨bb,0,none⟩),.string k,.pointer (some ⟨pb,0,none⟩)] w fun e w'=>(∃v,e=.returned v)∧ZbZ w' lo bb f∧Zb0 w' lo bb (ZbK m k pb)∧Zah (fun b=>lo≤b) w w'∧Zd6 bb f f w w'∧∀o v,w.cell? ⟨bb,o,none⟩=some v→w'.cell? ⟨bb,o,none⟩=some v:=by
 obtain⟨mb,h1,h2,h3⟩:=hm
 have H:=zh h
 have nm:=ZtG mb w
 obtain⟨o,hrun,hsm⟩:=K.ZnD (P:=Tryz.prog) (t:=93) h3 Tryz.underlying93 Tryz.underlying9 k (.pointer (some ⟨pb,0,none⟩))
 have HB:Hid (Zah (fun b=>b=mb) w (K.Zdn w mb o)):=(Zah.refl _ w).grown (K.Zgm w mb o) (fun b e=>.inl (by cases e;rfl))
 have H3:=zh h3
 have HS:=zh hsm
 have H1:=zh h1
 have H2:=zh h2
 clear h h3 hsm
 go_enter Tryz.func98,Tryz.ntmps98
 go_wp2
 go_end0
 have ty:∀{t b},Ty w b t→¬b=mb:=fun ht e=>by
  subst e
  exact Zis H3.out ht
 have hh:=H.out
 obtain⟨n,hn⟩:=hh.n
 have ro:∀k x,f k=some x→Zay (K.Zdn w mb o) (x.1+1) x.1 x.2.1 x.2.2∧ZaJ (K.Zdn w mb o) x.1=ZaJ w x.1:=fun k x hx=>by
  obtain⟨_,o2,o3,_⟩:=hh.rel k x hx
  exact o2.but HB.out (ty o3) (fun g hg=>ty (o2.item_ty hg).1) (fun b hb ht=>ty ht hb)
 refine⟨⟨_,rfl⟩,⟨hh.low,hh.ty.but HB.out (ty hh.ty),⟨n,HB.out.cell (ty hh.ty) hn⟩,ZaE HB.out (ty hh.ty) hh.ty.lt hh.free,fun k x hx=>?_,fun k k' x x' hx hx' hne=>?_⟩,⟨mb,H1.out,HB.out.cell (ty hh.ty) H2.out,?_⟩,HB.out.mono (fun b _ hb=>by subst hb;exact H1.out),⟨HB.out.mono (fun b _ hb=>by subst hb;exact .inr (.inl H2.out)),fun b hb=>?_⟩,fun o v hv=>HB.out.cell (ty hh.ty) hv⟩
 ·obtain⟨o1,o2,o3,o4⟩:=hh.rel k x hx
  exact⟨o1,(ro k x hx).1,o3.but HB.out (ty o3),o4⟩
 ·rw[(ro k x hx).2,(ro k' x' hx').2]
  exact hh.apart k k' x x' hx hx' hne
 ·have:(fun x=>(ZbK m k pb x).map fun pb=>Value.pointer (some ⟨pb,0,none⟩))=K.upd (fun x=>(m x).map fun pb=>Value.pointer (some ⟨pb,0,none⟩)) k (some (.pointer (some ⟨pb,0,none⟩))):=by
   funext x
   unfold ZbK K.upd
   split <;> rfl
  rw[this]
  exact HS.out
 ·rcases hb with hb|hb|⟨k',x',hx',hb⟩
  ·exact .inl (.inl hb)
  ·refine .inl (.inr (.inl ?_))
   rw[←hb]
   exact(World.cell?_of_block (HB.out.block bb hh.ty.lt (ty hh.ty))).symm
  ·rw[(ro k' x' hx').2] at hb
   exact .inl (.inr (.inr ⟨k',x',hx',hb⟩))
theorem ZbZ.count {w:World}{lo bb:Nat}{f:ZaT}(h:ZbZ w lo bb f)(n:Int):ZbZ (w.setCell ⟨bb,1,none⟩ (.int .i64 n)) lo bb f∧(∀m,Zb0 w lo bb m→Zb0 (w.setCell ⟨bb,1,none⟩ (.int .i64 n)) lo bb m)∧Zah (fun b=>lo≤b) w (w.setCell ⟨bb,1,none⟩ (.int .i64 n))∧Zd6 bb f f w (w.setCell ⟨bb,1,none⟩ (.int .i64 n)):=by
 have HB:Zah (fun b=>b=bb) w (w.setCell ⟨bb,1,none⟩ (.int .i64 n)):=(Zah.refl (fun b=>b=bb) w).set (.inl rfl) _ _
 obtain⟨k,hk⟩:=h.n
 have ty:∀{t b},Ty w b t→t≠95→¬b=bb:=fun ht hne e=>by
  subst e
  exact ht.ne h.ty hne rfl
 have ro:∀k x,f k=some x→Zay (w.setCell ⟨bb,1,none⟩ (.int .i64 n)) (x.1+1) x.1 x.2.1 x.2.2∧ZaJ (w.setCell ⟨bb,1,none⟩ (.int .i64 n)) x.1=ZaJ w x.1:=fun k x hx=>by
  obtain⟨_,o2,o3,_⟩:=h.rel k x hx
  exact o2.but HB (ty o3 (by decide)) (fun g hg=>ty (o2.item_ty hg).1 (by decide)) (fun b hb ht=>ty ht (by decide) hb)
 refine⟨⟨h.low,?_,⟨n,World.cell?_setCell_same _ _ _ hk⟩,by rw[World.frozen?_setCell];exact h.free,fun k x hx=>?_,fun k k' x x' hx hx' hne=>?_⟩,fun m hm=>?_,HB.mono (fun b _ hb=>by subst hb;exact h.low),HB.mono (fun b _ hb=>.inl hb),fun b hb=>?_⟩
 ·obtain⟨cs,x,q⟩:=h.ty
  obtain⟨cs',q'⟩:=Zbk q 1 (.int .i64 n)
  exact⟨cs',x,q'⟩
 ·obtain⟨o1,o2,o3,o4⟩:=h.rel k x hx
  exact⟨o1,(ro k x hx).1,o3.but HB (ty o3 (by decide)),o4⟩
 ·rw[(ro k x hx).2,(ro k' x' hx').2]
  exact h.apart k k' x x' hx hx' hne
 ·obtain⟨mb,q1,q2,q3⟩:=hm
  refine⟨mb,q1,?_,Zir q3 HB (fun e=>by subst e;exact Zis q3 h.ty)⟩
  rw[World.cell?_setCell_other _ _ _ _ (by simp)]
  exact q2
 ·rcases hb with hb|hb|⟨k',x',hx',hb⟩
  ·exact .inl (.inl hb)
  ·rw[World.cell?_setCell_other _ _ _ _ (by simp)] at hb
   exact .inl (.inr (.inl hb))
  ·rw[(ro k' x' hx').2] at hb
   exact .inl (.inr (.inr ⟨k',x',hx',hb⟩))
theorem Zeo (ar:Nat)(har:ar≤64)(w:World):
  Calls Tryz.prog 24 #[.int .i64 (ar:Int)] w fun e w'=>e=.returned (.tuple #[.pointer (some ⟨w.heap.size,0,none⟩),.int .i64 0])∧Zay w' (w.heap.size+1) w.heap.size ar []∧Ty w' w.heap.size 100∧ZaJ w' w.heap.size=none∧Ext w w'∧w'.heap.size=w.heap.size+1:=by
 have h1:¬((ar:Int)<0):=by omega
 have h2:¬((64:Int)<(ar:Int)):=by omega
 go_enter Tryz.func24,Tryz.ntmps24
 go_wp2
 go_ret2
 refine⟨rfl,⟨by simp,by go_simp,by go_simp,by go_simp,none,0,[],by go_simp,World.ownsRow_nil _ _ _ _,fun i r v h=>by simp at h⟩,⟨_,_,heap_alloc_new _ _⟩,?_,Zab zbr _,by simp⟩
 unfold ZaJ
 go_simp
theorem ZnM (w:World):Calls Tryz.prog 47 #[] w fun e w'=>e=.returned (.pointer (some ⟨w.heap.size,0,none⟩))∧ZaU w' w.heap.size w.heap.size []∧Ext w w':=by
 go_enter Tryz.func47,Tryz.ntmps47
 go_wp2
 go_returns
 have hh:∀o:Obj,(w.alloc o).heap[w.heap.size]? =some o:=fun o=>by
  show (w.heap.push o)[w.heap.size]? =some o
  simp
 refine⟨rfl,⟨Nat.le_refl _,⟨_,_,heap_alloc_new _ _⟩,by simp only[World.frozen?,hh];rfl,by simp only[World.frozen?,hh];rfl,⟨none,0,fun _=>rfl,by rw[World.cell?_alloc_new];rfl,World.ownsRow_nil _ _ _ _⟩,⟨none,0,fun _=>rfl,by rw[World.cell?_alloc_new];rfl,World.ownsRow_nil _ _ _ _⟩,fun x h=>by simp at h,.nil,.nil⟩,Zab zbr _⟩
theorem ZnN (k:ByteArray)(w:World):Calls Tryz.prog 94 #[.string k] w fun e w'=>e=.returned (.bool (ZbA k))∧w'=w:=by
 obtain⟨c,hc⟩:∃c,decide ((k.size:Int)≤(4096:Int))=c:=⟨_,rfl⟩
 by_cases h0:k.size=0
 ·have HQ:Hid (ZbA k=false):=by
   show _=_
   unfold ZbA
   rw[h0]
   rfl
  have h1:¬(0:Int)<(k.size:Int):=by omega
  have h2:¬0<k.size:=by omega
  rw[HQ.out]
  clear h0
  go_enter Tryz.func94,Tryz.ntmps94
  go_wp2
  go_returns
  exact⟨rfl,rfl⟩
 ·have h1:(0:Int)<(k.size:Int):=by omega
  have h2:0<k.size:=by omega
  have HQ:Hid (ZbA k=c):=by
   show _=_
   unfold ZbA
   rw[←hc,decide_eq_true (show 1≤k.size from h2),Bool.true_and,decide_eq_decide]
   omega
  rw[HQ.out]
  clear h0
  cases c
  all_goals
   go_enter Tryz.func94,Tryz.ntmps94
   go_wp2
   go_returns
   exact⟨rfl,rfl⟩
theorem ZfQ (ar:Nat)(har:ar≤64)(w:World):
  Calls Tryz.prog 34 #[.int .i64 (ar:Nat)] w fun e w'=>e=.returned (.tuple #[.pointer (some ⟨w.heap.size,0,none⟩),.int .i64 0])∧ZbH w' (w.heap.size+1) w.heap.size ar []∧Ty w' w.heap.size 105∧Ext w w'∧w'.heap.size=w.heap.size+1:=by
 have h1:¬(ar:Int)<0:=by omega
 have h2:¬(64:Int)<(ar:Int):=by omega
 go_enter Tryz.func34,Tryz.ntmps34
 go_wp2
 go_returns
 have hh:∀o:Obj,(w.alloc o).heap[w.heap.size]? =some o:=fun o=>by
  show (w.heap.push o)[w.heap.size]? =some o
  simp
 refine⟨rfl,⟨by simp,by rw[World.cell?_alloc_new];rfl,by simp only[World.frozen?,hh];rfl,none,0,[],by rw[World.cell?_alloc_new];rfl,World.ownsRow_nil _ _ _ _,rfl,fun i r v h=>by cases h⟩,⟨_,_,heap_alloc_new _ _⟩,Zab zbr _,by simp⟩
theorem Zjo (ar:Int)(har:ar<0∨64<ar)(w:World):
  Calls Tryz.prog 34 #[.int .i64 ar] w fun e w'=>e=.returned (.tuple #[.pointer none,.int .i64 2])∧w'=w:=by
 by_cases h1:ar<0
 ·go_enter Tryz.func34,Tryz.ntmps34
  go_wp2
  go_returns
  exact⟨rfl,rfl⟩
 ·have h2:(64:Int)<ar:=by omega
  go_enter Tryz.func34,Tryz.ntmps34
  go_wp2
  go_returns
  exact⟨rfl,rfl⟩
def Zfd (l:List Za7)(k:ByteArray)(ar:Int):Int:=if ZbA k=false then 32 else if ar<0∨64<ar then 2 else match Zbe l k with
 |some x=>if (x.ar:Int)=ar then 0 else 30
 |none=>0
def Zr9 (l:List Za7)(k:ByteArray)(ar:Nat)(l':List Za7):Prop:=(∃x,Zbe l k=some x∧x.ar=ar∧l'=l)∨(Zbe l k=none∧∃x:Za7,x.name=k∧x.ar=ar∧x.rs=[]∧l'=Zj8 l x)
theorem Zjp {l:List Za7}{k:ByteArray}(h:Zbe l k=none):∀y∈l,y.name≠k:=fun y hy=>by
 have:=List.find?_eq_none.1 h y hy
 simpa using this
theorem Zb8 {l:List Za7}{k:ByteArray}{x:Za7}(h:Zbe l k=some x):x∈l∧x.name=k:=⟨List.mem_of_find?_eq_some h,by simpa using List.find?_some h⟩
theorem ZaU.pb_lt {w:World}{lo bb:Nat}{l:List Za7}(h:ZaU w lo bb l):∀y∈l,y.pb<w.heap.size:=fun y hy=>(h.rel y hy).2.2.1.lt
theorem Zre (b:Nat)(w:World):(binOp .neq 44 (.pointer (some ⟨b,0,none⟩)) (.pointer none)).run Tryz.prog w=.ok (.bool true) w:=by kernel_rfl
theorem ZtH (w:World):(binOp .neq 44 (.pointer none) (.pointer none)).run Tryz.prog w=.ok (.bool false) w:=by kernel_rfl
theorem ZnO (lo bb:Nat)(l:List Za7)(k:ByteArray)(ar:Int)(w:World)(h:ZaU w lo bb l)(hl:l.length≤1000000):
  Calls Tryz.prog 48 #[.pointer (some ⟨bb,0,none⟩),.string k,.int .i64 ar] w fun e w'=>e=.returned (.int .i64 (Zfd l k ar))∧(Zfd l k ar=0→∃l',ZaU w' lo bb l'∧Zr9 l k ar.toNat l')∧Zah (fun b=>b=bb) w w':=by
 have H:=zh h
 have HL:=zh hl
 have hnil:=ZcU bb
 obtain⟨bn,hbn⟩:∃b,ZbA k=b:=⟨_,rfl⟩
 have NM:=zh (ZnN k w)
 rw[hbn] at NM
 have HBN:=zh hbn
 clear hbn h hl
 cases bn with
 |false=>
  have DE:Hid (Zfd l k ar=32):=by show _=_;unfold Zfd;rw[if_pos HBN.out]
  rw[DE.out]
  go_enter Tryz.func48,Tryz.ntmps48
  go_wp2_with (go_at_call 94;(with_reducible refine NM.out.mono ?_);rintro e w1 ⟨rfl,hw1⟩;obtain rfl:=hw1.symm)
  go_returns
  exact⟨rfl,fun h=>absurd h (by decide),Zah.refl _ _⟩
 |true=>
  by_cases har:ar<0∨64<ar
  ·have DE:Hid (Zfd l k ar=2):=by show _=_;unfold Zfd;rw[if_neg (by rw[HBN.out];simp),if_pos har]
   have NR:=zh (Zjo ar har w)
   rw[DE.out]
   clear har
   go_enter Tryz.func48,Tryz.ntmps48
   go_wp2_with (first|(go_at_call 94;(with_reducible refine NM.out.mono ?_);rintro e w1 ⟨rfl,hw1⟩;obtain rfl:=hw1.symm)|(go_at_call 34;(with_reducible refine NR.out.mono ?_);rintro e w1 ⟨rfl,hw1⟩;obtain rfl:=hw1.symm))
   go_returns
   exact⟨rfl,fun h=>absurd h (by decide),Zah.refl _ _⟩
  ·obtain⟨a,rfl⟩:∃a:Nat,ar=(a:Int):=⟨ar.toNat,by omega⟩
   have ha:a≤64:=by omega
   have NR:=zh (ZfQ a ha w)
   have RO:Hid (∀w1,Ext w w1→Calls Tryz.prog 80 #[.pointer (some ⟨bb,0,none⟩),.string k] w1 fun e w'=>e=.returned (Zrd (Zbe l k))∧Ext w1 w'):=fun w1 e1=>ZfO lo bb l k w1 (H.out.ext e1) HL.out
   have DE:Hid (Zfd l k a=match Zbe l k with|some x=>if (x.ar:Int)=a then 0 else 30|none=>0):=by
    show _=_;unfold Zfd;rw[if_neg (by rw[HBN.out];simp),if_neg (by omega)]
   have HA:Hid ((a:Int).toNat=a):=by show _=_;omega
   cases hx:Zbe l k with
   |none=>
    have HX:=zh hx
    have DE2:Hid (Zfd l k a=0):=by show _=_;rw[DE.out,hx]
    have RO2:Hid (∀w1,Ext w w1→Calls Tryz.prog 80 #[.pointer (some ⟨bb,0,none⟩),.string k] w1 fun e w'=>e=.returned (.pointer none)∧Ext w1 w'):=by
     have:=RO.out
     rw[hx] at this
     exact this
    obtain⟨pb,hpb⟩:∃pb,w.heap.size=pb:=⟨_,rfl⟩
    have HPB:=zh hpb
    rw[hpb] at NR
    have PU:Hid (∀w1,Ext w w1→ZbH w1 (pb+1) pb a []→Ty w1 pb 105→Calls Tryz.prog 95 #[.pointer (some ⟨bb,0,none⟩),.string k,.pointer (some ⟨pb,0,none⟩)] w1 fun e w'=>(∃v,e=.returned v)∧ZaU w' lo bb (Zj8 l ⟨k,pb,a,[]⟩)∧Zah (fun b=>b=bb) w1 w'):=fun w1 e1 q1 q2=>by
     have hlow:=H.out.low
     have hbl:=H.out.ty.lt
     have hp:=HPB.out
     have hz:=e1.size
     refine ZtD lo bb l ⟨k,pb,a,[]⟩ w1 (H.out.ext e1) HL.out (by omega) ⟨by show lo≤pb;omega,q1,q2,Zbs.nil ha⟩ (fun y hy=>⟨?_,Zjp HX.out y hy⟩)
     have:=H.out.pb_lt y hy
     show y.pb≠pb
     omega
    rw[DE2.out]
    have hneq:=ZtH
    have heq:=ZgV
    clear RO NR hpb hx har
    have NR:=zh (ZfQ a ha w)
    rw[HPB.out] at NR
    go_enter Tryz.func48,Tryz.ntmps48
    go_wp2_with (first|(go_at_call 94;(with_reducible refine NM.out.mono ?_);rintro e w1 ⟨rfl,hw1⟩;obtain rfl:=hw1.symm)|(go_at_call 34;(with_reducible refine NR.out.mono ?_);rintro e w1 ⟨rfl,v1,t1,e1,z1⟩)|(go_at_call 80;(with_reducible refine(RO2.out _ e1).mono ?_);rintro e w2 ⟨rfl,e2⟩)|(go_at_call 95;(with_reducible refine(PU.out _ (Zaa e1 e2) (v1.ext e2) (t1.ext e2)).mono ?_);rintro e w3 ⟨⟨v3,rfl⟩,d3,b3⟩))
    go_returns
    refine⟨rfl,fun _=>⟨_,d3,.inr ⟨HX.out,_,rfl,HA.out.symm,rfl,rfl⟩⟩,?_⟩
    have:=b3.mono (T:=fun b=>b=bb) (fun b _ hb=>hb)
    exact((Zah.refl _ w).ext (Zaa e1 e2)).trans b3
   |some x=>
    have HX:=zh hx
    have RO2:Hid (∀w1,Ext w w1→Calls Tryz.prog 80 #[.pointer (some ⟨bb,0,none⟩),.string k] w1 fun e w'=>e=.returned (.pointer (some ⟨x.pb,0,none⟩))∧Ext w1 w'):=by
     have:=RO.out
     rw[hx] at this
     exact this
    have c0:=(H.out.rel x (Zb8 hx).1).2.1.c0
    have C0:Hid (∀w1,Ext w w1→w1.cell? ⟨x.pb,0,none⟩=some (.int .i64 (x.ar:Int))):=fun w1 e1=>Zac e1 c0
    have hneq:=Zre x.pb
    have heq:=Zdc x.pb
    obtain⟨q,hq⟩:∃q,((x.ar:Int) != (a:Int))=q:=⟨_,rfl⟩
    have DE2:Hid (Zfd l k a=if q=false then 0 else 30):=by
     show _=_
     rw[DE.out,hx,←hq]
     simp
    clear RO hx har c0
    cases q with
    |false=>
     have HQ:=zh hq
     have DE3:Hid (Zfd l k a=0):=DE2.out
     rw[DE3.out]
     go_enter Tryz.func48,Tryz.ntmps48
     go_wp2_with (first|(go_at_call 94;(with_reducible refine NM.out.mono ?_);rintro e w1 ⟨rfl,hw1⟩;obtain rfl:=hw1.symm)|(go_at_call 34;(with_reducible refine NR.out.mono ?_);rintro e w1 ⟨rfl,v1,t1,e1,z1⟩)|(go_at_call 80;(with_reducible refine(RO2.out _ e1).mono ?_);rintro e w2 ⟨rfl,e2⟩;have c2:=C0.out _ (Zaa e1 e2)))
     go_returns
     refine⟨rfl,fun _=>⟨l,H.out.ext (Zaa e1 e2),.inl ⟨x,HX.out,?_,rfl⟩⟩,(Zah.refl _ w).ext (Zaa e1 e2)⟩
     have:(x.ar:Int)=a:=by simpa using HQ.out
     rw[HA.out]
     omega
    |true=>
     have DE3:Hid (Zfd l k a=30):=DE2.out
     rw[DE3.out]
     go_enter Tryz.func48,Tryz.ntmps48
     go_wp2_with (first|(go_at_call 94;(with_reducible refine NM.out.mono ?_);rintro e w1 ⟨rfl,hw1⟩;obtain rfl:=hw1.symm)|(go_at_call 34;(with_reducible refine NR.out.mono ?_);rintro e w1 ⟨rfl,v1,t1,e1,z1⟩)|(go_at_call 80;(with_reducible refine(RO2.out _ e1).mono ?_);rintro e w2 ⟨rfl,e2⟩;have c2:=C0.out _ (Zaa e1 e2)))
     go_returns
     exact⟨rfl,fun h=>absurd h (by decide),(Zah.refl _ w).ext (Zaa e1 e2)⟩
structure Zb3 where
 name:ByteArray
 ar:Int
 rows:List (List ByteArray)
def ZcV (ar:Nat)(t:List ByteArray):Int:=if t.length≠ar then 30 else if ZaP t=false then 31 else 0
abbrev Zjq:=ByteArray→Option (Nat×List (List ByteArray))
def Zc1 (S:Zjq)(k:ByteArray)(ar:Int):Int:=if ZbA k=false then 32 else if ar<0∨64<ar then 2 else match S k with
 |some x=>if (x.1:Int)=ar then 0 else 30
 |none=>0
def Zcj (S:Zjq)(k:ByteArray):List (List ByteArray):=match S k with
 |some x=>x.2
 |none=>[]
def Zlv (ar:Nat):List (List ByteArray)→List (List ByteArray)→Int×List (List ByteArray)
 |rs,[]=>(0,rs)
 |rs,t::ts=>if ZcV ar t=0 then Zlv ar (ZaO rs t) ts else (ZcV ar t,rs)
def Zsa (S:Zjq)(x:Zb3):Int×Zjq:=
 if Zc1 S x.name x.ar=0 then ((Zlv x.ar.toNat (Zcj S x.name) x.rows).1,ZbK S x.name (x.ar.toNat,(Zlv x.ar.toNat (Zcj S x.name) x.rows).2)) else (Zc1 S x.name x.ar,S)
def Zcw:Zjq→List Zb3→Int×Zjq
 |S,[]=>(0,S)
 |S,x::xs=>if (Zsa S x).1=0 then Zcw (Zsa S x).2 xs else ((Zsa S x).1,fun _=>none)
def ZaZ (xs:List Zb3):Nat:=(xs.map fun x=>x.rows.length).sum
theorem ZfR (x:Zb3)(xs:List Zb3):ZaZ (x::xs)=x.rows.length+ZaZ xs:=by simp[ZaZ]
def Zdi (S:Zjq)(k:ByteArray)(ar:Nat)(rs ts:List (List ByteArray))(xs:List Zb3):Int×Zjq:=
 if (Zlv ar rs ts).1=0 then Zcw (ZbK S k (ar,(Zlv ar rs ts).2)) xs else ((Zlv ar rs ts).1,fun _=>none)
theorem Zjr (S:Zjq)(k:ByteArray)(ar:Nat)(rs:List (List ByteArray))(xs:List Zb3):Zdi S k ar rs [] xs=Zcw (ZbK S k (ar,rs)) xs:=by
 unfold Zdi Zlv
 rw[if_pos rfl]
theorem ZhQ (S:Zjq)(k:ByteArray)(ar:Nat)(rs:List (List ByteArray))(t:List ByteArray)(ts:List (List ByteArray))(xs:List Zb3):Zdi S k ar rs (t::ts) xs=if ZcV ar t=0 then Zdi S k ar (ZaO rs t) ts xs else (ZcV ar t,fun _=>none):=by
 by_cases h:ZcV ar t=0
 ·rw[if_pos h]
  unfold Zdi
  have:Zlv ar rs (t::ts)=Zlv ar (ZaO rs t) ts:=by conv=>lhs;unfold Zlv;rw[if_pos h]
  rw[this]
 ·rw[if_neg h]
  unfold Zdi
  have:Zlv ar rs (t::ts)=(ZcV ar t,rs):=by conv=>lhs;unfold Zlv;rw[if_neg h]
  rw[this,if_neg h]
theorem ZfS (S:Zjq)(x:Zb3)(xs:List Zb3):Zcw S (x::xs)=if Zc1 S x.name x.ar=0 then Zdi S x.name x.ar.toNat (Zcj S x.name) x.rows xs else (Zc1 S x.name x.ar,fun _=>none):=by
 conv=>lhs;unfold Zcw
 unfold Zsa
 by_cases h:Zc1 S x.name x.ar=0
 ·rw[if_pos h,if_pos h]
  unfold Zdi
  rfl
 ·rw[if_neg h,if_neg h,if_neg h]
theorem ZfT {S:Zjq}{k:ByteArray}{ar:Int}(h:Zc1 S k ar=0):ZbA k=true∧0≤ar∧ar≤64:=by
 unfold Zc1 at h
 split at h
 ·cases h
 ·rename_i h1
  split at h
  ·cases h
  ·rename_i h2
   exact⟨by simpa using h1,by omega,by omega⟩
theorem ZgY {α:Type}(f:ByteArray→Option α)(k:ByteArray)(x y:α):ZbK (ZbK f k x) k y=ZbK f k y:=by
 funext z
 unfold ZbK
 split <;> rfl
def Zj9 (f:ZaT)(k:ByteArray)(t:List ByteArray):Nat:=match f k with
 |some x=>x.2.1
 |none=>t.length
def ZeH (f:ZaT)(k:ByteArray):List (List ByteArray):=match f k with
 |some x=>x.2.2
 |none=>[]
def Za2 (f:ZaT):Zjq:=fun k=>(f k).map fun x=>x.2
def ZhB (f:ZaT)(k:ByteArray)(t:List ByteArray):Int:=if ZbA k=false then 32 else if t.length≠Zj9 f k t∨64<t.length then 30 else if ZaP t=false then 31 else if 65536≤(ZeH f k).length∧ZaX (ZeH f k) t=false then 4 else 0
theorem Ziw {f:ZaT}{k:ByteArray}{t:List ByteArray}{ar:Nat}{rs:List (List ByteArray)}(hn:ZbA k=true)(ha:Zj9 f k t=ar∧ZeH f k=rs):ZhB f k t=if t.length≠ar∨64<t.length then 30 else if ZaP t=false then 31 else if 65536≤rs.length∧ZaX rs t=false then 4 else 0:=by
 unfold ZhB
 rw[ha.1,ha.2,hn]
 rfl
def ZhR (bb:Nat)(f:ZaT)(k:ByteArray)(t:List ByteArray)(w w':World)(q:Int):Prop:=∀N:Int,w.cell? ⟨bb,1,none⟩=some (.int .i64 N)→0≤N→N<262144→q=ZhB f k t∧(q=0→∃N',w'.cell? ⟨bb,1,none⟩=some (.int .i64 N')∧0≤N'∧N'≤N+1∧∀v,w.cell? ⟨bb,0,none⟩=some v→w'.cell? ⟨bb,0,none⟩=some v)
theorem ZhR.no {bb:Nat}{f:ZaT}{k:ByteArray}{t:List ByteArray}{w w':World}{q:Int}(hq:q≠0)(h:ZhB f k t=q):ZhR bb f k t w w' q:=fun _ _ _ _=>⟨h.symm,fun e=>absurd e hq⟩
theorem ZhR.full {bb:Nat}{f:ZaT}{k:ByteArray}{t:List ByteArray}{w w':World}{q n0:Int}(hc:w.cell? ⟨bb,1,none⟩=some (.int .i64 n0))(h:decide ((262144:Int)≤n0)=true):ZhR bb f k t w w' q:=fun N hN _ hl=>by
 rw[hc] at hN
 cases hN
 have:=of_decide_eq_true h
 omega
theorem ZhR.ok {bb:Nat}{f:ZaT}{k:ByteArray}{t:List ByteArray}{w w':World}{n0 n1:Int}(hc:w.cell? ⟨bb,1,none⟩=some (.int .i64 n0))(h:ZhB f k t=0)(h1:w'.cell? ⟨bb,1,none⟩=some (.int .i64 n1))(h2:0≤n0→n0<262144→n0≤n1∧n1≤n0+1)(h3:∀v,w.cell? ⟨bb,0,none⟩=some v→w'.cell? ⟨bb,0,none⟩=some v):ZhR bb f k t w w' 0:=fun N hN h0 hl=>by
 rw[hc] at hN
 cases hN
 obtain⟨a,b⟩:=h2 h0 hl
 exact⟨h.symm,fun _=>⟨n1,h1,by omega,b,h3⟩⟩
def ZhS (l:List Za7)(k:ByteArray)(rs:List (List ByteArray)):List Za7:=l.map fun y=>if y.name=k then {y with rs:=rs} else y
theorem ZhT {rs:List (List ByteArray)}(h:Zbg rs)(t:List ByteArray):decide (0≤Zcn rs t 0)=ZaX rs t:=by
 rw[Bool.eq_iff_iff,decide_eq_true_eq,Zji,Zdu h]
theorem Zsb {rs:List (List ByteArray)}(h:Zbg rs)(t:List ByteArray)(hf:¬0≤Zcn rs t 0):rs.take (Zhw rs t)++t::rs.drop (Zhw rs t)=ZaO rs t:=by
 unfold ZaO
 rw[if_neg (by rw[←ZhT h];simpa using hf),Zlo h]
theorem ZpX {rs:List (List ByteArray)}(h:Zbg rs)(t:List ByteArray)(hf:0≤Zcn rs t 0):ZaO rs t=rs:=by
 unfold ZaO
 rw[if_pos (by rw[←ZhT h];simpa using hf)]
theorem ZaU.added {w w':World}{lo bb:Nat}{l:List Za7}{x:Za7}{k:ByteArray}{rs:List (List ByteArray)}(h:ZaU w lo bb l)(hx:Zbe l k=some x)(e:Zah (fun b=>b=x.pb) w w')(h1:ZbH w' (x.pb+1) x.pb x.ar rs)(h2:Zbs x.ar rs)(ht:Ty w' x.pb 105):ZaU w' lo bb (ZhS l k rs):=by
 obtain⟨hm,hk⟩:=Zb8 hx
 obtain⟨x1,x2,x3,x4⟩:=h.rel x hm
 have nbb:¬bb=x.pb:=fun q=>by rw[←q] at x3;exact x3.ne h.ty (by decide) rfl
 have nst:∀b,b=x.pb→¬Ty w b 9∧¬Ty w b 54:=fun b hb=>by
  subst hb
  exact⟨fun q=>q.ne x3 (by decide) rfl,fun q=>q.ne x3 (by decide) rfl⟩
 have nms:∀{a c n} {xs:List Value} {t:TypeId},w.ownsRow lo t 1 (.slice a n c) n xs→t≠105→w'.ownsRow lo t 1 (.slice a n c) n xs:=fun q hne=>e.own q (fun b hb hS=>by
  subst hS
  exact(ZaN q hb).ne x3 hne rfl)
 have uniq:∀y∈l,y.name=k→y=x:=fun y hy hyk=>by
  obtain⟨i,hi,rfl⟩:=List.mem_iff_getElem.1 hy
  obtain⟨j,hj,rfl⟩:=List.mem_iff_getElem.1 hm
  rcases Nat.lt_trichotomy i j with q|q|q
  ·have:=List.pairwise_iff_getElem.1 h.up i j hi hj q
   rw[hyk,hk] at this
   exact absurd this (Zbb _)
  ·subst q;rfl
  ·have:=List.pairwise_iff_getElem.1 h.up j i hj hi q
   rw[hyk,hk] at this
   exact absurd this (Zbb _)
 have hne:ZhS l k rs=[]→l=[]:=fun q=>by
  unfold ZhS at q
  exact List.map_eq_nil_iff.1 q
 have hn:(ZhS l k rs).map (fun x=>Value.string x.name)=l.map (fun x=>Value.string x.name):=by
  unfold ZhS
  rw[List.map_map]
  apply List.map_congr_left
  intro y _
  simp only[Function.comp]
  split <;> rfl
 have hp:(ZhS l k rs).map (fun x=>Value.pointer (some ⟨x.pb,0,none⟩))=l.map (fun x=>Value.pointer (some ⟨x.pb,0,none⟩)):=by
  unfold ZhS
  rw[List.map_map]
  apply List.map_congr_left
  intro y _
  simp only[Function.comp]
  split <;> rfl
 have hlen:(ZhS l k rs).length=l.length:=by unfold ZhS;rw[List.length_map]
 obtain⟨a,c,n0,n1,n2⟩:=h.names
 obtain⟨a2,c2,m0,m1,m2⟩:=h.all
 refine⟨h.low,h.ty.but e nbb,ZaE e nbb h.ty.lt h.f0,ZaE e nbb h.ty.lt h.f1,⟨a,c,fun q=>n0 (hne q),?_,?_⟩,⟨a2,c2,fun q=>m0 (hne q),?_,?_⟩,fun y hy=>?_,?_,?_⟩
 ·rw[hlen];exact e.cell nbb n1
 ·rw[hlen,hn];exact nms n2 (by decide)
 ·rw[hlen];exact e.cell nbb m1
 ·rw[hlen,hp];exact nms m2 (by decide)
 ·unfold ZhS at hy
  obtain⟨z,hz,rfl⟩:=List.mem_map.1 hy
  by_cases hzk:z.name=k
  ·rw[if_pos hzk]
   obtain rfl:=uniq z hz hzk
   exact⟨x1,h1,ht,h2⟩
  ·rw[if_neg hzk]
   obtain⟨z1,z2,z3,z4⟩:=h.rel z hz
   have hzb:¬z.pb=x.pb:=fun q=>by
    obtain⟨i,hi,rfl⟩:=List.mem_iff_getElem.1 hz
    obtain⟨j,hj,rfl⟩:=List.mem_iff_getElem.1 hm
    rcases Nat.lt_trichotomy i j with r|r|r
    ·exact List.pairwise_iff_getElem.1 h.apart i j hi hj r q
    ·subst r;exact hzk hk
    ·exact List.pairwise_iff_getElem.1 h.apart j i hj hi r q.symm
   exact⟨z1,Zjm z2 e hzb nst,z3.but e hzb,z4⟩
 ·unfold ZhS
  rw[List.pairwise_map]
  refine h.apart.imp fun {y z} q=>?_
  split <;> split <;> exact q
 ·unfold ZhS
  rw[List.pairwise_map]
  refine h.up.imp fun {y z} q=>?_
  split <;> split <;> exact q
theorem ZtI (lo bb:Nat)(l:List Za7)(k:ByteArray)(x:Za7)(t:List ByteArray)(a:Option Addr)(n c:Nat)(w:World)(h:ZaU w lo bb l)(hl:l.length≤1000000)(hn:ZbA k=true)(hx:Zbe l k=some x)(hlen:Ze0 l≤100000)(hrs:x.rs.length<65536)(ht:Zai w a n t)(hc:a=none→n=0∧c=0):
  Calls Tryz.prog 49 #[.pointer (some ⟨bb,0,none⟩),.string k,.slice a n c] w fun e w'=>(∃b,e=.returned (.tuple #[.bool b,.int .i64 (ZcV x.ar t)]))∧(ZcV x.ar t=0→ZaU w' lo bb (ZhS l k (ZaO x.rs t)))∧Zah (fun b=>b=x.pb) w w':=by
 have H:=zh h
 have HX:=zh hx
 have HT:=zh ht
 have hnn:=ht.2.1
 have HNN:=zh hnn
 have hnil:=ZcU bb
 have NM:=zh (ZnN k w)
 rw[hn] at NM
 obtain⟨x1,x2,x3,x4⟩:=h.rel x (Zb8 hx).1
 have X2:=zh x2
 have X3:=zh x3
 have X4:=zh x4
 have c0:=x2.c0
 obtain⟨ra,rc,vs,c1,o1,r1⟩:=x2.row
 have C0:Hid (∀w1,Ext w w1→w1.cell? ⟨x.pb,0,none⟩=some (.int .i64 (x.ar:Int))):=fun w1 e1=>Zac e1 c0
 have C1:Hid (∀w1,Ext w w1→w1.cell? ⟨x.pb,1,none⟩=some (.slice ra x.rs.length rc)):=fun w1 e1=>Zac e1 c1
 have RO:Hid (∀w1,Ext w w1→Calls Tryz.prog 80 #[.pointer (some ⟨bb,0,none⟩),.string k] w1 fun e w'=>e=.returned (.pointer (some ⟨x.pb,0,none⟩))∧Ext w1 w'):=fun w1 e1=>by
  have:=ZfO lo bb l k w1 (H.out.ext e1) hl
  rw[hx] at this
  exact this
 have hneq:=Zre x.pb
 have heq:=Zdc x.pb
 have har:x.ar≤64:=x4.wide
 by_cases h1:n=x.ar
 ·have q1:((x.ar:Int) != (n:Int))=false:=by rw[h1];simp
  have q2:¬(64:Int)<(n:Int):=by omega
  have TX:Hid (∀w1,Ext w w1→Calls Tryz.prog 84 #[.slice a n c] w1 fun e w'=>e=.returned (.bool (ZaP t))∧Ext w1 w'):=fun w1 e1=>(Zks t a n c w1 (ht.keep e1)).mono fun e w' ⟨q1,q2,q3⟩=>⟨q1,by rw[q3];exact Zae zbr q2⟩
  obtain⟨M,hM⟩:∃M,ZaP t=M:=⟨_,rfl⟩
  have HM:=zh hM
  rw[hM] at TX
  cases M with
  |false=>
   have BE:Hid (ZcV x.ar t=31):=by show _=_;unfold ZcV;rw[if_neg (by omega),if_pos HM.out]
   rw[BE.out]
   clear h hx ht hnn x1 x2 x3 x4 c0 c1 o1 r1 hM h1
   go_enter Tryz.func49,Tryz.ntmps49
   go_wp2_with (first|(go_at_call 94;(with_reducible refine NM.out.mono ?_);rintro e w1 ⟨rfl,hw1⟩;obtain rfl:=hw1.symm)|(go_at_call 80;(with_reducible refine(RO.out _ zbr).mono ?_);rintro e w2 ⟨rfl,e2⟩;have d0:=C0.out _ e2)|(go_at_call 84;(with_reducible refine(TX.out _ e2).mono ?_);rintro e w3 ⟨rfl,e3⟩))
   go_returns
   exact⟨⟨_,rfl⟩,fun h=>absurd h (by decide),(Zah.refl _ w).ext (Zaa e2 e3)⟩
  |true=>
   have BE:Hid (ZcV x.ar t=0):=by show _=_;unfold ZcV;rw[if_neg (by omega),if_neg (by rw[HM.out];simp)]
   rw[BE.out]
   have IT:Zcp w ra x.rs.length x.rs:=Zax.itemsD o1 r1 (by unfold maxLen;omega)
   have FD:Hid (∀w1,Ext w w1→Calls Tryz.prog 85 #[.pointer (some ⟨x.pb,0,none⟩),.slice a n c] w1 fun e w'=>e=.returned (.int .i64 (Zcn x.rs t 0))∧Ext w1 w'):=fun w1 e1=>(Zlp x.rs t x.pb ra x.rs.length rc a n c w1 (Zac e1 c1) (IT.keep e1) (ht.keep e1)).mono fun e w' ⟨q1,q2,q3⟩=>⟨q1,by rw[q3];exact Zae zbr q2⟩
   have LN:Hid (∀w1,Ext w w1→Calls Tryz.prog 96 #[.pointer (some ⟨bb,0,none⟩)] w1 fun e w'=>e=.returned (.int .i64 (Ze0 l:Nat))∧Ext w1 w'):=fun w1 e1=>ZtB lo bb l w1 (H.out.ext e1) hl (by omega)
   have q3:decide ((262144:Int)≤((Ze0 l:Nat):Int))=false:=by rw[decide_eq_false_iff_not];omega
   have q4:decide ((65536:Int)≤(x.rs.length:Int))=false:=by rw[decide_eq_false_iff_not];omega
   by_cases hF:0≤Zcn x.rs t 0
   ·have AB:Ziq x.ar x.rs t=false:=by unfold Ziq;simp[hF]
    have AE:Zjj x.ar x.rs t=0:=by unfold Zjj;rw[if_neg (by omega),if_neg (by rw[HM.out];simp),if_pos hF]
    have AD:Hid (∀w1,Ext w w1→Calls Tryz.prog 38 #[.pointer (some ⟨x.pb,0,none⟩),.slice a n c] w1 fun e w'=>e=.returned (.tuple #[.bool false,.int .i64 0])∧Ext w1 w'):=fun w1 e1=>by
     have:=Zjl (x.pb+1) x.pb x.ar x.rs t a n c w1 (x2.ext e1) (by omega) har (ht.keep e1) AB
     rw[AE] at this
     exact this.mono fun e w' ⟨q1,q2,q3⟩=>⟨q1,by rw[q3];exact Zae zbr q2⟩
    have PS:=zh (ZpX x4.up t hF)
    obtain⟨F,hFF⟩:∃F,Zcn x.rs t 0=F:=⟨_,rfl⟩
    rw[hFF] at FD hF
    have q5:¬F<0:=by omega
    clear h hx ht hnn x1 x2 x3 x4 c0 c1 o1 r1 hM h1 IT AB AE hFF hrs hlen
    go_enter Tryz.func49,Tryz.ntmps49
    go_wp2_with (first|(go_at_call 94;(with_reducible refine NM.out.mono ?_);rintro e w1 ⟨rfl,hw1⟩;obtain rfl:=hw1.symm)|(go_at_call 80;(with_reducible refine(RO.out _ zbr).mono ?_);rintro e w2 ⟨rfl,e2⟩;have d0:=C0.out _ e2)|(go_at_call 84;(with_reducible refine(TX.out _ e2).mono ?_);rintro e w3 ⟨rfl,e3⟩)|(go_at_call 85;(with_reducible refine(FD.out _ (Zaa e2 e3)).mono ?_);rintro e w4 ⟨rfl,e4⟩)|(go_at_call 38;(with_reducible refine(AD.out _ (Zaa (Zaa e2 e3) e4)).mono ?_);rintro e w5 ⟨rfl,e5⟩))
    go_returns
    have e9:=Zaa (Zaa (Zaa e2 e3) e4) e5
    refine⟨⟨_,rfl⟩,fun _=>?_,(Zah.refl _ w).ext e9⟩
    rw[PS.out]
    exact(H.out.ext e9).added HX.out ((Zah.refl _ _)) (X2.out.ext e9) X4.out (X3.out.ext e9)
   ·have AB:Ziq x.ar x.rs t=true:=by unfold Ziq;simp[hF,HM.out];omega
    have AD:Hid (∀w1,Ext w w1→Calls Tryz.prog 38 #[.pointer (some ⟨x.pb,0,none⟩),.slice a n c] w1 fun e w'=>DPut w1 (x.pb+1) x.pb x.ar (x.rs.take (Zhw x.rs t)++t::x.rs.drop (Zhw x.rs t)) e w'):=fun w1 e1=>ZhP (x.pb+1) x.pb x.ar x.rs t a n c w1 (x2.ext e1) har (ht.keep e1) hc (x3.ext e1).lt AB
    have PS:=zh (Zsb x4.up t hF)
    rw[PS.out] at AD
    obtain⟨F,hFF⟩:∃F,Zcn x.rs t 0=F:=⟨_,rfl⟩
    rw[hFF] at FD hF
    have q5:F<0:=by omega
    have OK:Hid (Zbs x.ar (ZaO x.rs t)):=by
     have:=x4.add t
     unfold ZbY Za5 at this
     rw[if_pos (by rw[if_neg (by omega),if_neg (by rw[HM.out];simp),if_neg (by omega)])] at this
     exact this
    clear h hx ht hnn x1 x2 x3 x4 c0 c1 o1 r1 hM h1 IT AB hFF hrs hlen
    go_enter Tryz.func49,Tryz.ntmps49
    go_wp2_with (first|(go_at_call 94;(with_reducible refine NM.out.mono ?_);rintro e w1 ⟨rfl,hw1⟩;obtain rfl:=hw1.symm)|(go_at_call 80;(with_reducible refine(RO.out _ zbr).mono ?_);rintro e w2 ⟨rfl,e2⟩;have d0:=C0.out _ e2)|(go_at_call 84;(with_reducible refine(TX.out _ e2).mono ?_);rintro e w3 ⟨rfl,e3⟩)|(go_at_call 85;(with_reducible refine(FD.out _ (Zaa e2 e3)).mono ?_);rintro e w4 ⟨rfl,e4⟩)|(go_at_call 96;(with_reducible refine(LN.out _ (Zaa (Zaa e2 e3) e4)).mono ?_);rintro e w6 ⟨rfl,e6⟩;have d1:=C1.out _ (Zaa (Zaa (Zaa e2 e3) e4) e6))|(go_at_call 38;(with_reducible refine(AD.out _ (Zaa (Zaa (Zaa e2 e3) e4) e6)).mono ?_);rintro e w5 ⟨rfl,p5,b5,t5⟩))
    go_returns
    have e9:=Zaa (Zaa (Zaa e2 e3) e4) e6
    have b9:=((Zah.refl (fun b=>b=x.pb) w).ext e9).trans b5
    refine⟨⟨_,rfl⟩,fun _=>?_,b9⟩
    exact H.out.added HX.out b9 p5 OK.out (t5 _ (X3.out.ext e9))
 ·have q1:((x.ar:Int) != (n:Int))=true:=by simp;omega
  have BE:Hid (ZcV x.ar t=30):=by show _=_;unfold ZcV;rw[if_pos (by omega)]
  rw[BE.out]
  obtain⟨q2,hq2⟩:∃q,decide ((64:Int)<(n:Int))=q:=⟨_,rfl⟩
  clear h hx ht hnn x1 x2 x3 x4 c0 c1 o1 r1 h1
  cases q2
  all_goals
   go_enter Tryz.func49,Tryz.ntmps49
   go_wp2_with (first|(go_at_call 94;(with_reducible refine NM.out.mono ?_);rintro e w1 ⟨rfl,hw1⟩;obtain rfl:=hw1.symm)|(go_at_call 80;(with_reducible refine(RO.out _ zbr).mono ?_);rintro e w2 ⟨rfl,e2⟩;have d0:=C0.out _ e2))
   go_returns
   exact⟨⟨_,rfl⟩,fun h=>absurd h (by decide),(Zah.refl _ w).ext e2⟩
