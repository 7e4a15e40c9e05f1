/- Rows.Has; the walk of the join's test of what is missing. -/
import Derived.Test.YtjfbjjmiobgjfaaGreatG24
import Derived.Test.YtjfbjjmiobgjfaaGreatG29
import Derived.Test.YtjfbjjmiobgjfaaGreatG30
import Derived.Test.YtjfbjjmiobgjfaaGreatG31
set_option maxRecDepth 100000
set_option maxHeartbeats 8000000
namespace Go.Proofs.YtjfbjjmiobgjfaaGreat
theorem Zat {α:Type}(l:List α)(i:Nat)(a:α):l.toArray.setIfInBounds i a=(l.set i a).toArray:=List.setIfInBounds_toArray ..
theorem Zau {α:Type}(a b:α)(l:List α):(a::l).set 0 b=b::l:=List.set_cons_zero ..
theorem Zav {α:Type}(a b:α)(l:List α)(n:Nat):(a::l).set (n+1) b=a::l.set n b:=List.set_cons_succ ..
abbrev ZtR:Oper:=⟨some 63,.fieldAddr 64 (.tmp 12) 0,0, "leap.go:48",#[],none⟩
abbrev ZtS:Oper:=⟨some 64,.load 3 (.tmp 63),3, "leap.go:48",#[⟨0,.data⟩],none⟩
abbrev ZtT:Oper:=⟨some 65,.binOp .eql 3 (.tmp 64) (.const (.int .i64 3)) 3,4, "leap.go:48",#[⟨1,.data⟩],none⟩
abbrev ZtU:Oper:=⟨some 66,.move (.tmp 65),4, "leap.go:48",#[⟨2,.data⟩],none⟩
abbrev Zsl:Oper:=⟨some 67,.move (.tmp 10),54, "leap.go:48",#[⟨3,.guard⟩],some (3,true)⟩
abbrev Zsm:Oper:=⟨some 68,.move (.tmp 11),3, "leap.go:48",#[⟨3,.guard⟩],some (3,true)⟩
abbrev Zsn:Oper:=⟨some 69,.indexAddr 54 (.tmp 67) (.tmp 68),0, "leap.go:48",#[⟨4,.data⟩,⟨5,.data⟩,⟨3,.guard⟩],some (3,true)⟩
abbrev Zso:Oper:=⟨some 70,.load 9 (.tmp 69),9, "leap.go:48",#[⟨6,.data⟩,⟨3,.guard⟩],some (3,true)⟩
abbrev Zsp:Oper:=⟨some 71,.fieldAddr 64 (.tmp 12) 1,0, "leap.go:48",#[⟨3,.guard⟩],some (3,true)⟩
abbrev Zsq:Oper:=⟨some 72,.load 9 (.tmp 71),9, "leap.go:48",#[⟨8,.data⟩,⟨3,.guard⟩],some (3,true)⟩
abbrev Zoh:Oper:=⟨some 73,.binOp .neq 9 (.tmp 70) (.tmp 72) 9,4, "leap.go:48",#[⟨7,.data⟩,⟨9,.data⟩,⟨3,.guard⟩],some (3,true)⟩
abbrev Zrn:Oper:=⟨some 74,.pick (.tmp 66) (.tmp 73) (.const (.bool false)),4, "leap.go:48",#[⟨3,.data⟩,⟨10,.data⟩],none⟩
abbrev Zro:Oper:=⟨some 75,.move (.tmp 74),4, "leap.go:48",#[⟨11,.data⟩,⟨3,.chain⟩],none⟩
abbrev Zoi:Oper:=⟨some 76,.fieldAddr 64 (.tmp 12) 0,0, "leap.go:48",#[⟨12,.guard⟩],some (12,false)⟩
abbrev Zoj:Oper:=⟨some 77,.load 3 (.tmp 76),3, "leap.go:48",#[⟨13,.data⟩,⟨12,.guard⟩],some (12,false)⟩
abbrev Zok:Oper:=⟨some 78,.binOp .eql 3 (.tmp 77) (.const (.int .i64 1)) 3,4, "leap.go:48",#[⟨14,.data⟩,⟨12,.guard⟩],some (12,false)⟩
abbrev Zol:Oper:=⟨some 79,.move (.tmp 78),4, "leap.go:48",#[⟨15,.data⟩,⟨12,.chain⟩,⟨12,.guard⟩],some (12,false)⟩
abbrev Zrp:Oper:=⟨some 80,.move (.tmp 10),54, "leap.go:48",#[⟨16,.guard⟩],some (16,true)⟩
abbrev Zrq:Oper:=⟨some 81,.fieldAddr 24 (.tmp 3) 1,0, "leap.go:48",#[⟨16,.guard⟩],some (16,true)⟩
abbrev Zrr:Oper:=⟨some 82,.load 22 (.tmp 81),22, "leap.go:48",#[⟨18,.data⟩,⟨16,.guard⟩],some (16,true)⟩
abbrev Zrs:Oper:=⟨some 83,.load 64 (.tmp 12),64, "leap.go:48",#[⟨16,.guard⟩],some (16,true)⟩
abbrev ZtV:Oper:=⟨some 84,.call {callee:=.value (.func 130),args:=#[.tmp 82,.tmp 83],argTypes:=#[22,64]},3, "leap.go:48",#[⟨19,.data⟩,⟨20,.data⟩,⟨16,.chain⟩,⟨16,.guard⟩],some (16,true)⟩
abbrev Zrt:Oper:=⟨some 85,.indexAddr 54 (.tmp 80) (.tmp 84),0, "leap.go:48",#[⟨17,.data⟩,⟨21,.data⟩,⟨16,.guard⟩],some (16,true)⟩
abbrev Zru:Oper:=⟨some 86,.load 9 (.tmp 85),9, "leap.go:48",#[⟨22,.data⟩,⟨16,.guard⟩],some (16,true)⟩
abbrev Zrv:Oper:=⟨some 87,.move (.tmp 10),54, "leap.go:48",#[⟨16,.guard⟩],some (16,true)⟩
abbrev Zrw:Oper:=⟨some 88,.move (.tmp 11),3, "leap.go:48",#[⟨16,.guard⟩],some (16,true)⟩
abbrev Zrx:Oper:=⟨some 89,.indexAddr 54 (.tmp 87) (.tmp 88),0, "leap.go:48",#[⟨24,.data⟩,⟨25,.data⟩,⟨16,.guard⟩],some (16,true)⟩
abbrev Zry:Oper:=⟨some 90,.load 9 (.tmp 89),9, "leap.go:48",#[⟨26,.data⟩,⟨16,.guard⟩],some (16,true)⟩
abbrev Zrz:Oper:=⟨some 91,.binOp .neq 9 (.tmp 86) (.tmp 90) 9,4, "leap.go:48",#[⟨23,.data⟩,⟨27,.data⟩,⟨16,.guard⟩],some (16,true)⟩
abbrev Zom:Oper:=⟨some 92,.pick (.tmp 79) (.tmp 91) (.const (.bool false)),4, "leap.go:48",#[⟨16,.data⟩,⟨28,.data⟩,⟨12,.guard⟩],some (12,false)⟩
abbrev ZrA:Oper:=⟨some 93,.pick (.tmp 75) (.const (.bool true)) (.tmp 92),4, "leap.go:48",#[⟨12,.data⟩,⟨29,.data⟩],none⟩
abbrev ZtW:Oper:=⟨some 102,.move (.tmp 13),54, "leap.go:54",#[],none⟩
abbrev ZtX:Oper:=⟨some 103,.move (.tmp 10),54, "leap.go:54",#[],none⟩
abbrev ZtY:Oper:=⟨some 104,.fieldAddr 24 (.tmp 3) 1,0, "leap.go:54",#[],none⟩
abbrev ZtZ:Oper:=⟨some 105,.load 22 (.tmp 104),22, "leap.go:54",#[⟨2,.data⟩],none⟩
abbrev Zt0:Oper:=⟨some 106,.load 54 (.tmp 5),54, "leap.go:54",#[],none⟩
abbrev Zt1:Oper:=⟨some 107,.move (.tmp 15),3, "leap.go:54",#[],none⟩
abbrev Zt2:Oper:=⟨some 108,.indexAddr 54 (.tmp 106) (.tmp 107),0, "leap.go:54",#[⟨4,.data⟩,⟨5,.data⟩],none⟩
abbrev Zt3:Oper:=⟨some 109,.load 9 (.tmp 108),9, "leap.go:54",#[⟨6,.data⟩],none⟩
abbrev Zt4:Oper:=⟨some 110,.build 64 #[(0,.const (.int .i64 1)),(1,.tmp 109)],64, "leap.go:54",#[⟨7,.data⟩],none⟩
abbrev Zt5:Oper:=⟨some 112,.indexAddr 54 (.tmp 103) (.tmp 111),0, "leap.go:54",#[⟨1,.data⟩,⟨9,.data⟩],none⟩
abbrev Zt6:Oper:=⟨some 113,.load 9 (.tmp 112),9, "leap.go:54",#[⟨10,.data⟩],none⟩
abbrev Zt7:Oper:=⟨some 13,.assign (.tmp 115),54, "leap.go:54",#[⟨13,.data⟩,⟨13,.chain⟩,⟨0,.phase⟩,⟨1,.phase⟩,⟨2,.phase⟩,⟨3,.phase⟩,⟨4,.phase⟩,⟨5,.phase⟩,⟨6,.phase⟩,⟨7,.phase⟩,⟨8,.phase⟩,⟨9,.phase⟩,⟨10,.phase⟩,⟨11,.phase⟩,⟨12,.phase⟩,⟨13,.phase⟩],none⟩
open ChangeShapes WideShapes ChangeAt RowKit
def Zon (w:World)(a:Option Addr)(vars:List Nat):Prop:=∀j v,vars[j]? =some v→∃b o,a=some ⟨b,o,none⟩∧w.cell? ⟨b,o+j,none⟩=some (.int .i64 (v:Nat))
theorem ZmI (lo pr ar bt:Nat)(vars:List Nat)(av:Option Addr)(cv:Nat)(rs:List (List ByteArray))(x:List ByteArray)(ax:Option Addr)(n c:Nat)(w:World)(h:Zay w lo pr ar rs)(hr:Zbg rs)(hn:rs.length≤1000000)(hx:Zai w ax n x)
  (h0:w.cell? ⟨bt,0,none⟩=some (.slice av vars.length cv)) (h1:w.cell? ⟨bt,1,none⟩=some (.pointer (some ⟨pr,0,none⟩))) (hv:Zon w av vars) (hlt:∀v∈vars,v<n) (hvn:vars.length≤1000000):
  Calls Tryz.prog 132 #[.slice ax n c,.pointer (some ⟨bt,0,none⟩)] w fun e w'=>e=.returned (.bool (!ZaX rs (vars.map (gt x))))∧Ext w w':=by
 have HR:=zh h
 have HRI:=zh hr
 have HX:=zh hx
 have HV:=zh hv
 have HLT:=zh hlt
 obtain⟨m,hm⟩:∃m,vars.length=m:=⟨_,rfl⟩
 rw[hm] at h0
 have HM:=zh hm
 have hmn:m≤1000000:=by omega
 have H1:=zh h1
 clear h hr hx hv hlt hm hvn h1
 obtain⟨i0,hi,hz0,hz1,hz2⟩:=info_parts ZbI
 have hb0:Ext w w:=Below.refl _ _
 go_enter Tryz.func132,Tryz.ntmps132
 go_wp2
 go_loopw [4,10] (fun l iv wr=>∃q:Nat,iv=.int .i64 (q:Nat)∧q≤m∧Ext w wr∧wr.ownsRow w.heap.size 9 1 l q (((vars.take q).map (gt x)).map Value.string)) (fun _ iv _=>m-(intOf iv).toNat)
 case atStart=>exact⟨0,rfl,Nat.zero_le _,Below.refl _ _,World.ownsRow_nil _ _ _ _⟩
 case round=>
  obtain⟨q,rfl,hqm,hE,hown⟩:=hrel
  have HE:=zh hE
  have HO:=zh hown
  by_cases hq:q<m
  ·obtain⟨v,hv⟩:∃v,vars[q]? =some v:=⟨_,zge (by rw[HM.out];exact hq)⟩
   obtain⟨b,o,rfl,hcv0⟩:=HV.out q v hv
   have hcv:=Zac hE hcv0
   have hvlt:=HLT.out v (zmg hv)
   obtain⟨y,bx,ox,y1,rfl,y2⟩:=HX.out.2.at hvlt
   rw[Nat.mul_one] at y2
   have hcy:wr.cell? ⟨bx,ox+v,none⟩=some (.string y):=Zac hE y2
   have HY:Hid (gt x v=y):=by
    show _=_
    unfold gt
    rw[y1]
    rfl
   have HVQ:=zh hv
   have hz:=Za3 (o:=.cells #[.string y] 9) (w:=wr) hE.size
   have HZ:=zh hz
   clear hE hown hv hcv0 y1 y2 hz
   go_wp2_with (at_builtin;go_loud (refine wpList_append_lies _ rfl _ _ 54 rfl w.heap.size 9 i0 (.string ⟨#[]⟩) 1 16 Tryz.underlying54 hi hz0 hz1 hz2 rfl (by decide) _ q (((vars.take q).map (gt x)).map Value.string) rfl (HO.out.alloc _) ⟨wr.heap.size,0,none⟩ 1 1 [.string y] rfl rfl (Zgt _ _ _) (fun x hx=>by cases List.mem_singleton.1 hx;rfl) (Nat.zero_lt_one) (by unfold maxLen;omega) (by omega) HZ.out _ rfl ?_);intro g7 p7 w7 own7 q7 hat7 hlt7)
   go_roundw
   case rel=>
    refine⟨q+1,by simp,by omega,?_,?_⟩
    ·exact Zaz (Zab HE.out _) q7 (fun g hg=>(HO.out.lt g hg).1)
    ·rw[List.take_add_one,HVQ.out,List.map_append,List.map_append]
     have e:((some v).toList.map (gt x)).map Value.string=[.string y]:=by
      show [Value.string (gt x v)]=_
      rw[HY.out]
     rw[e]
     exact own7
   case measure=>simp[intOf];omega
  ·obtain rfl:q=m:=by omega
   have hfull:vars.take q=vars:=by rw[←HM.out,List.take_length]
   have hown2:=HO.out
   rw[hfull] at hown2
   obtain⟨al,cl,rfl,hcl⟩:=Zag hown2
   have HH:=zh (ZhO lo pr ar rs (vars.map (gt x)) al q cl wr (HR.out.ext HE.out) HRI.out hn (ZaL hown2 (by unfold maxLen;omega)))
   have hc1:=Zac hE H1.out
   clear hE hown hown2 hfull
   go_wp2_with (go_at_call 70;(with_reducible refine HH.out.mono ?_);rintro e w2 ⟨rfl,hw2⟩;obtain rfl:=hw2.symm)
   go_returns
   exact⟨rfl,HE.out⟩
def Ztj (w:World)(rowv fv:Value)(q:Bool):Prop:=
 (∃b:Nat,fv=.func (.func 132) #[] #[.pointer (some ⟨b,0,none⟩)]∧∀W,Ext w W→Calls Tryz.prog 132 #[rowv,.pointer (some ⟨b,0,none⟩)] W fun e w'=>e=.returned (.bool q)∧Ext W w')∨
 (∃p1 p2 p3 p4:Nat,fv=.func (.func 134) #[] #[.pointer (some ⟨p1,0,none⟩),.pointer (some ⟨p2,0,none⟩),.pointer (some ⟨p3,0,none⟩),.pointer (some ⟨p4,0,none⟩)]∧∀W,Ext w W→Calls Tryz.prog 134 #[rowv,.pointer (some ⟨p1,0,none⟩),.pointer (some ⟨p2,0,none⟩),.pointer (some ⟨p3,0,none⟩),.pointer (some ⟨p4,0,none⟩)] W fun e w'=>e=.returned (.bool q)∧Ext W w')
theorem Ztj.ext {w w':World}{rowv fv:Value}{q:Bool}(h:Ztj w rowv fv q)(e:Ext w w'):Ztj w' rowv fv q:=by
 rcases h with⟨b,h1,h2⟩|⟨p1,p2,p3,p4,h1,h2⟩
 ·exact .inl ⟨b,h1,fun W hW=>h2 W (Zaa e hW)⟩
 ·exact .inr ⟨p1,p2,p3,p4,h1,fun W hW=>h2 W (Zaa e hW)⟩
theorem Zsr (last:Int)(fv:Value)(q:Bool)(pw bx:Nat)(ar:Option Addr)(n c:Nat)(w:World)(hf:Ztj w (.slice ar n c) fv q)(hb:w.cell? ⟨bx,0,none⟩=some (.pointer (some ⟨pw,0,none⟩)))(hr:w.cell? ⟨pw,2,none⟩=some (.slice ar n c)):
  Calls Tryz.prog 153 #[.agg #[.int .i64 last,fv],.pointer (some ⟨bx,0,none⟩)] w fun e w'=>e=.returned (.bool (!q))∧Ext w w':=by
 have z1:=World.block_lt_of_cell? _ _ hb
 have z2:=World.block_lt_of_cell? _ _ hr
 dsimp only at z1 z2
 have hd0:Ext w w:=Below.refl _ _
 rcases hf with⟨b,rfl,hC⟩|⟨p1,p2,p3,p4,rfl,hC⟩
 ·have HC:=zh hC
  clear hC
  go_enter Tryz.func153,Tryz.ntmps153
  go_wp2
  refine Zba (fun W hW=>?_)
  have hE:Ext w W:=by rw[hW];go_grown
  have y0:W.cell? ⟨w.heap.size,1,none⟩=some (.func (.func 132) #[] #[.pointer (some ⟨b,0,none⟩)]):=by rw[hW];go_simp
  clear hW
  have y1:=Zac hE hb
  have y2:=Zac hE hr
  clear hb hr
  have z3:=World.block_lt_of_cell? _ _ y0
  have z4:bx<W.heap.size:=World.block_lt_of_cell? _ _ y1
  have z5:pw<W.heap.size:=World.block_lt_of_cell? _ _ y2
  dsimp only at z3
  have hdW:Ext W W:=Below.refl _ _
  go_region_held3 (fun w'=>∀b o,b<W.heap.size→w'.cell? ⟨b,o,none⟩=W.cell? ⟨b,o,none⟩)
   ((intro bb oo hbb;repeat (first|(with_reducible rfl)|(with_reducible rw[World.cell?_drew])|((with_reducible refine(hc7 bb oo ?_).trans ?_);· (first|omega|(simp;done)|(simp;omega))))))
   (first
    |(go_at_call 132;(with_reducible refine(HC.out _ (Zaa hE (by repeat (with_reducible (first|exact hdW|apply Zaf))))).mono ?_);rintro e w7 ⟨rfl,h7⟩;have e7:Ext W w7:=Zaa (by repeat (with_reducible (first|exact hdW|apply Zaf))) h7;obtain⟨hc7,hf7⟩:=Zlf e7)
    |fail)
  all_goals
   go_wp2
   go_returns
   exact⟨rfl,Zaa hE (by repeat (with_reducible (first|exact e7|apply Zaf)))⟩
 ·have HC:=zh hC
  clear hC
  go_enter Tryz.func153,Tryz.ntmps153
  go_wp2
  refine Zba (fun W hW=>?_)
  have hE:Ext w W:=by rw[hW];go_grown
  have y0:W.cell? ⟨w.heap.size,1,none⟩=some (.func (.func 134) #[] #[.pointer (some ⟨p1,0,none⟩),.pointer (some ⟨p2,0,none⟩),.pointer (some ⟨p3,0,none⟩),.pointer (some ⟨p4,0,none⟩)]):=by rw[hW];go_simp
  clear hW
  have y1:=Zac hE hb
  have y2:=Zac hE hr
  clear hb hr
  have z3:=World.block_lt_of_cell? _ _ y0
  have z4:bx<W.heap.size:=World.block_lt_of_cell? _ _ y1
  have z5:pw<W.heap.size:=World.block_lt_of_cell? _ _ y2
  dsimp only at z3
  have hdW:Ext W W:=Below.refl _ _
  go_region_held3 (fun w'=>∀b o,b<W.heap.size→w'.cell? ⟨b,o,none⟩=W.cell? ⟨b,o,none⟩)
   ((intro bb oo hbb;repeat (first|(with_reducible rfl)|(with_reducible rw[World.cell?_drew])|((with_reducible refine(hc7 bb oo ?_).trans ?_);· (first|omega|(simp;done)|(simp;omega))))))
   (first
    |(go_at_call 134;(with_reducible refine(HC.out _ (Zaa hE (by repeat (with_reducible (first|exact hdW|apply Zaf))))).mono ?_);rintro e w7 ⟨rfl,h7⟩;have e7:Ext W w7:=Zaa (by repeat (with_reducible (first|exact hdW|apply Zaf))) h7;obtain⟨hc7,hf7⟩:=Zlf e7)
    |fail)
  all_goals
   go_wp2
   go_returns
   exact⟨rfl,Zaa hE (by repeat (with_reducible (first|exact e7|apply Zaf)))⟩
def Zss (w:World)(rowv:Value)(a:Option Addr)(qs:List Bool):Prop:=∀j q,qs[j]? =some q→∃b o last fv,a=some ⟨b,o,none⟩∧w.cell? ⟨b,o+j*2,none⟩=some (.int .i64 last)∧w.cell? ⟨b,o+j*2+1,none⟩=some fv∧Ztj w rowv fv q
theorem Zss.keep {w w':World}(e:Ext w w'){rowv:Value}{a:Option Addr}{qs:List Bool}(h:Zss w rowv a qs):Zss w' rowv a qs:=fun j q hq=>by
 obtain⟨b,o,last,fv,h1,h2,h3,h4⟩:=h j q hq
 exact⟨b,o,last,fv,h1,YtjfbjjmiobgjfaaGreat.Zac e h2,YtjfbjjmiobgjfaaGreat.Zac e h3,h4.ext e⟩
theorem Zt8 (qs:List Bool)(a:Option Addr)(n ca:Nat)(pw bx:Nat)(ar:Option Addr)(nr cr:Nat)(w:World)(hn:qs.length=n)(hsz:n≤1000000000000)(ht:Zss w (.slice ar nr cr) a qs)(hb:w.cell? ⟨bx,0,none⟩=some (.pointer (some ⟨pw,0,none⟩)))(hr:w.cell? ⟨pw,2,none⟩=some (.slice ar nr cr)):
  Calls Tryz.prog 184 #[.slice a n ca,.func (.func 153) #[] #[.pointer (some ⟨bx,0,none⟩)]] w fun e w'=>∃i:Int,e=.returned (.int .i64 i)∧decide (0≤i)=qs.any (fun q=>!q)∧Ext w w':=by
 have HT:=zh ht
 have HB:=zh hb
 have HR:=zh hr
 have HN:=zh hn
 clear ht hb hr hn
 go_enter Tryz.func184,Tryz.ntmps184
 go_wp2
 go_loopw [8] (fun iv wr=>∃k:Nat,iv=.int .i64 (k:Nat)∧k≤n∧Ext w wr∧∀j q,j<k→qs[j]? =some q→q=true) (fun iv _=>n-(intOf iv).toNat)
 case atStart=>exact⟨0,rfl,Nat.zero_le _,Below.refl _ _,fun j q h=>absurd h (by omega)⟩
 case round=>
  obtain⟨k,rfl,hkn,hE,hall⟩:=hrel
  have HA:=zh hall
  clear hall
  by_cases hk:k<n
  ·obtain⟨q,hq⟩:∃q,qs[k]? =some q:=⟨_,zge (by rw[HN.out];exact hk)⟩
   obtain⟨b,o,last,fv,rfl,h2,h3,h4⟩:=HT.out.keep hE k q hq
   have P1:=zh (Zsr last fv q pw bx ar nr cr wr h4 (Zac hE HB.out) (Zac hE HR.out))
   have HE:=zh hE
   have HQ:=zh hq
   clear hE hq h4
   cases q with
   |true=>
    go_wp2_with (go_at_call 153;(with_reducible refine P1.out.mono ?_);rintro e w2 ⟨rfl,e2⟩)
    go_roundw
    case rel=>
     refine⟨k+1,by simp,by omega,Zaa HE.out e2,fun j q hj hjq=>?_⟩
     rcases Nat.lt_or_ge j k with h|h
     ·exact HA.out j q h hjq
     ·obtain rfl:j=k:=by omega
      rw[HQ.out] at hjq
      cases hjq
      rfl
    case measure=>simp[intOf];omega
   |false=>
    go_wp2_with (go_at_call 153;(with_reducible refine P1.out.mono ?_);rintro e w2 ⟨rfl,e2⟩)
    go_returns
    refine⟨(k:Int),rfl,?_,Zaa HE.out e2⟩
    rw[decide_eq_true (by omega)]
    exact(List.any_eq_true.2 ⟨false,zmg HQ.out,rfl⟩).symm
  ·obtain rfl:k=n:=by omega
   have HE:=zh hE
   clear hE
   go_wp2
   go_returns
   refine⟨-1,rfl,?_,HE.out⟩
   rw[decide_eq_false (by omega)]
   refine(List.any_eq_false.2 fun q hq=>?_).symm
   obtain⟨j,hj⟩:=List.mem_iff_getElem?.1 hq
   rw[HA.out j q (by rw[←HN.out];exact(zgs hj).1) hj]
   simp
theorem Zst (qs:List Bool)(a:Option Addr)(n ca:Nat)(pw bx:Nat)(ar:Option Addr)(nr cr:Nat)(w:World)(hn:qs.length=n)(hsz:n≤1000000000000)(ht:Zss w (.slice ar nr cr) a qs)(hb:w.cell? ⟨bx,0,none⟩=some (.pointer (some ⟨pw,0,none⟩)))(hr:w.cell? ⟨pw,2,none⟩=some (.slice ar nr cr)):
  Calls Tryz.prog 152 #[.slice a n ca,.func (.func 153) #[] #[.pointer (some ⟨bx,0,none⟩)]] w fun e w'=>e=.returned (.bool (qs.any fun q=>!q))∧Ext w w':=by
 have I:=zh (Zt8 qs a n ca pw bx ar nr cr w hn hsz ht hb hr)
 clear hn hsz ht hb hr
 go_enter Tryz.func152,Tryz.ntmps152
 go_wp2_with (go_at_call 184;(with_reducible refine I.out.mono ?_);rintro e w2 ⟨i,rfl,hi,e2⟩)
 go_returns
 exact⟨by rw[←hi];rfl,e2⟩
theorem Zqb (qs:List Bool)(a:Option Addr)(n ca:Nat)(pw pm gt_ v nt ct:Nat)(ar:Option Addr)(nr cr:Nat)(w:World)(hn:qs.length=n)(hsz:n≤1000000000000)(ht:Zss w (.slice ar nr cr) a qs)(hr:w.cell? ⟨pw,2,none⟩=some (.slice ar nr cr))
  (h0:w.cell? ⟨pw,0,none⟩=some (.pointer (some ⟨pm,0,none⟩))) (h3:w.cell? ⟨pm,3,none⟩=some (.slice (some ⟨gt_,0,none⟩) nt ct)) (hv:v<nt) (hg:w.cell? ⟨gt_,v,none⟩=some (.slice a n ca)):
  Calls Tryz.prog 136 #[.pointer (some ⟨pw,0,none⟩),.int .i64 (v:Nat)] w fun e w'=>e=.returned (.bool (qs.all id))∧Ext w w':=by
 have CO:Hid (∀W,Ext w W→∀bx,W.cell? ⟨bx,0,none⟩=some (.pointer (some ⟨pw,0,none⟩))→Calls Tryz.prog 152 #[.slice a n ca,.func (.func 153) #[] #[.pointer (some ⟨bx,0,none⟩)]] W fun e w'=>e=.returned (.bool (qs.any fun q=>!q))∧Ext W w'):=fun W hW bx hbx=>Zst qs a n ca pw bx ar nr cr W hn hsz (ht.keep hW) hbx (Zac hW hr)
 have HQ:Hid ((!(qs.any fun q=>!q))=qs.all id):=by
  show _=_
  clear ht CO hn
  induction qs with
  |nil=>rfl
  |cons q l ih=>cases q <;> simp_all
 obtain⟨q,hq⟩:∃q,(qs.any fun q=>!q)=q:=⟨_,rfl⟩
 rw[hq] at CO HQ
 have z0:=World.block_lt_of_cell? _ _ h0
 have z3:=World.block_lt_of_cell? _ _ h3
 have zg:=World.block_lt_of_cell? _ _ hg
 dsimp only at z0 z3 zg
 clear ht hn hq hr
 go_enter Tryz.func136,Tryz.ntmps136
 go_wp2_with (go_at_call 152;(with_reducible refine(CO.out _ (by go_grown) _ (by go_simp)).mono ?_);rintro e w2 ⟨rfl,e2⟩)
 go_returns
 exact⟨by rw[←HQ.out];rfl,Zaa (by go_grown) e2⟩
open ChangeShapes WideShapes ChangeAt RowKit Go.Shelf
structure ZrB (w:World)(T0:Nat→Prop)(pm n:Nat)(ts:List JT)(pts:List Nat)(p:Nat→List ByteArray→Bool):Prop where
 jok:∀t∈ts,t.Ok n
 big:∀t∈ts,t.vars.length≤64∧t.rows.length≤1000000
 all:∀v,v<n→∃t∈ts,v∈t.vars
 nn:n≤1000000∧ts.length≤1000000
 lens:pts.length=ts.length
 names:∃an cn,∀W,Zah T0 w W→W.cell? ⟨pm,0,none⟩=some (.slice an n cn)
 tries:∃aT ct,∀W,Zah T0 w W→W.cell? ⟨pm,1,none⟩=some (.slice aT ts.length ct)∧(∀(i pt:Nat),pts[i]? =some pt→∃b o,aT=some ⟨b,o,none⟩∧W.cell? ⟨b,o+i,none⟩=some (.pointer (some ⟨pt,0,none⟩)))∧∀(i:Nat) (t:JT) (pt:Nat),ts[i]? =some t→pts[i]? =some pt→ZbV W pt t.vars.length t.rows
 at_:∃(ga ca:Nat) (f g:Nat→Nat),∀W,Zah T0 w W→W.cell? ⟨pm,2,none⟩=some (.slice (some ⟨ga,0,none⟩) n ca)∧∀v,v<n→W.cell? ⟨ga,v,none⟩=some (.slice (some ⟨f v,0,none⟩) (atv ts v).length (g v))∧∀(j c:Nat),(atv ts v)[j]? =some c→W.cell? ⟨f v,j,none⟩=some (.int .i64 (c:Nat))
 tests:∃(gt_ ct:Nat),∀W,Zah T0 w W→W.cell? ⟨pm,3,none⟩=some (.slice (some ⟨gt_,0,none⟩) (n+1) ct)∧∀v,v≤n→∃a k c,k≤1000000000000∧W.cell? ⟨gt_,v,none⟩=some (.slice a k c)∧∀(x:List ByteArray) (ar:Option Addr) (cr:Nat),Zai W ar n x→x.length=n→∃qs,qs.length=k∧Zss W (.slice ar n cr) a qs∧qs.all id=p v (x.take v)
theorem ZiJ {ops:Array Oper}{o:Oper}{a:Act}{K:Act→World→Prop}{Q:Exit→Act→World→Prop}{E:Prop}(W0:World)(pc:Nat)(base:Nat)(v:Value)(n:Nat)(l:List Value)(hown:W0.ownsRow base 176 1 v n l)(hn:n≤1000000)(hbase:base≤W0.heap.size)(hgd:o.guard=none)(s x:Operand)
  (ho:o.op=.call {callee:=.builtin .append,args:=#[s,x],argTypes:=#[172,172]}) (hs:a.eval s=v) (hx:a.eval x=.slice (some ⟨W0.heap.size,0,none⟩) 1 1)
  (h:∀g cap w',w'.ownsRow base 176 1 (.slice (some ⟨g,0,none⟩) (n+1) cap) (n+1) (l++[Zi2 pc])→(W0.alloc (.cells #[.pointer (some ⟨pc,0,none⟩)] 176)).grownBy w' v.ownBlock→K (a.put o.dst (.slice (some ⟨g,0,none⟩) (n+1) cap)) w'):
  if Region.wanted o (yielded ops a.tmps)=true then Oper.wp Tryz.prog o a (W0.alloc (.cells #[.pointer (some ⟨pc,0,none⟩)] 176)) K Q else E:=by
 obtain⟨n0,hn0,nz0,nz1,nz2⟩:=info_parts Zll
 exact step_append_lies _ hgd s x 172 ho base 176 n0 (.pointer none) 1 8 Tryz.underlying172 hn0 nz0 nz1 nz2 rfl (by decide) v n l hs (hown.alloc _) ⟨W0.heap.size,0,none⟩ 1 1 [.pointer (some ⟨pc,0,none⟩)] hx rfl (Zgt W0 _ _) (by simp[Value.oneCell']) (by omega) (by unfold maxLen;omega) (by omega) (by simp;omega) _ rfl fun g cap w1 hown1 hgrow hat _=>h g cap w1 hown1 hgrow
theorem ZeT {w7 w6:World}{o:Obj}{r:Option Nat}{b:Nat}(h:(w7.alloc o).grownBy w6 r)(hr:r≠some b)(hb:b<w7.heap.size):(∀k,w6.cell? ⟨b,k,none⟩=w7.cell? ⟨b,k,none⟩)∧∀k,w6.frozen? ⟨b,k,none⟩=w7.frozen? ⟨b,k,none⟩:=by
 have e:w6.heap[b]? =w7.heap[b]?:=(h.block b (by simp;omega) (fun e=>hr e.symm)).trans ((Zab (Below.refl _ w7:Ext w7 w7) o).block b hb)
 exact⟨fun k=>World.cell?_of_block e,fun k=>by simp[World.frozen?,e]⟩
structure ZmJ (pm n l:Nat)(ts:List JT)(pts:List Nat)(w W:World)(lo pw:Nat)(pcs:List Nat)(v:Value)(wr:World):Prop where
 ext:Ext w wr
 sz:W.heap.size≤wr.heap.size
 row:wr.ownsRow w.heap.size 9 1 (.slice (some ⟨w.heap.size,0,none⟩) n n) n (madeCells (Value.string ⟨#[]⟩).cells (n*1)).toList
 top:wr.cell? ⟨pw,0,none⟩=some (.pointer (some ⟨pm,0,none⟩))∧wr.cell? ⟨pw,1,none⟩=some v∧wr.frozen? ⟨pw,1,none⟩=false∧wr.cell? ⟨pw,2,none⟩=some (.slice (some ⟨w.heap.size,0,none⟩) n n)∧wr.cell? ⟨pw,3,none⟩=some (.func (.yield l) #[] #[])
 own:wr.ownsRow lo 176 1 v pcs.length (pcs.map Zi2)
 cur:∀(i:Nat) (t:JT) (pc pt:Nat),ts[i]? =some t→pcs[i]? =some pc→pts[i]? =some pt→Zgy wr lo pc pt t.vars.length t.rows (fun b=>b=pc) []
 up:pcs.Pairwise (·<·)
 low:∀pc∈pcs,lo≤pc∧pc<wr.heap.size
theorem ZmJ.next {pm n l:Nat}{ts:List JT}{pts:List Nat}{w W:World}{lo pw:Nat}{pcs:List Nat}{v:Value}{wr w7 w6:World}{o:Obj}{q g c pt:Nat}{t:JT}(h:ZmJ pm n l ts pts w W lo pw pcs v wr)(hq:pcs.length=q)(ht:ts[q]? =some t)(hpt:pts[q]? =some pt)(e7:Ext wr w7)(k7:Zgy w7 lo wr.heap.size pt t.vars.length t.rows (fun b=>b=wr.heap.size) [])
  (p1:w6.ownsRow lo 176 1 (.slice (some ⟨g,0,none⟩) (q+1) c) (q+1) (pcs.map Zi2++[Zi2 wr.heap.size])) (p2:(w7.alloc o).grownBy w6 v.ownBlock) (hlo:lo=W.heap.size) (hpw:pw<lo) (hwp:w.heap.size<pw):
  ZmJ pm n l ts pts w W lo pw (pcs++[wr.heap.size]) (.slice (some ⟨g,0,none⟩) (q+1) c) (w6.setCell ⟨pw,1,none⟩ (.slice (some ⟨g,0,none⟩) (q+1) c)):=by
 have hvlt:∀b,v.ownBlock=some b→lo≤b∧b<wr.heap.size:=fun b e=>h.own.lt b e
 have hpwr:pw<wr.heap.size:=by have:=h.sz;omega
 have hb1:Zah (fun b=>v.ownBlock=some b∨b=pw) w7 w6:=((Zah.refl _ w7).alloc o).grown p2 (fun b e=>.inl (.inl e))
 have hb2:Zah (fun b=>v.ownBlock=some b∨b=pw) w7 (w6.setCell ⟨pw,1,none⟩ (.slice (some ⟨g,0,none⟩) (q+1) c)):=hb1.set (.inl (.inr rfl)) _ _
 have hb:Zah (fun b=>v.ownBlock=some b∨b=pw) wr (w6.setCell ⟨pw,1,none⟩ (.slice (some ⟨g,0,none⟩) (q+1) c)):=((Zah.refl _ wr).ext e7).trans hb2
 have hnv:v.ownBlock≠some pw:=fun e=>by have:=(hvlt _ e).1;omega
 obtain⟨u1,u2⟩:=ZeT p2 hnv (Nat.lt_of_lt_of_le hpwr e7.size)
 have hg:=(p1.lt g rfl).1
 have hcell:∀k x,k≠1→wr.cell? ⟨pw,k,none⟩=some x→(w6.setCell ⟨pw,1,none⟩ (.slice (some ⟨g,0,none⟩) (q+1) c)).cell? ⟨pw,k,none⟩=some x:=fun k x hk hx=>by
  rw[World.cell?_setCell_other _ _ _ _ (by intro e;exact hk (by injection e with _ e2;exact e2.symm)),u1 k]
  exact Zac e7 hx
 obtain⟨s0,s1,s2,s3,s4⟩:=h.top
 have hknew:∃x,w7.heap[wr.heap.size]? =some x:=by
  obtain⟨rb,sp,⟨⟨a,c,t1,_⟩,_⟩,_⟩:=k7
  exact⟨_,t1⟩
 refine⟨⟨hb.os.trans h.ext.os,hb.tape.trans h.ext.tape,hb.output.trans h.ext.output,Nat.le_trans h.ext.size hb.size,fun b hbl=>?_⟩,Nat.le_trans h.sz hb.size,hb.own h.row (fun b e=>?_),⟨hcell 0 _ (by decide) s0,?_,?_,hcell 2 _ (by decide) s3,hcell 3 _ (by decide) s4⟩,?_,fun i t' pc pt' a1 a2 a3=>?_,?_,fun pc hpc=>?_⟩
 ·refine(hb.block b (Nat.lt_of_lt_of_le hbl h.ext.size) (fun hT=>?_)).trans (h.ext.block b hbl)
  rcases hT with hT|hT
  ·have:=(hvlt b hT).1
   omega
  ·omega
 ·have e2:w.heap.size=b:=by injection e
  subst e2
  rintro (hT|hT)
  ·have:=(hvlt _ hT).1
   omega
  ·omega
 ·exact World.cell?_setCell_same _ _ _ ((u1 1).trans (Zac e7 s1))
 ·rw[World.frozen?_setCell,u2 1]
  exact(e7.frozen (p:=⟨pw,1,none⟩) hpwr).trans s2
 ·rw[List.length_append,hq,List.map_append]
  exact Zam p1 (.inr (fun e=>by cases e;omega)) _
 ·rcases Nat.lt_or_ge i q with hi|hi
  ·rw[List.getElem?_append_left (by omega)] at a2
   have hk:=h.cur i t' pc pt' a1 a2 a3
   refine hk.buts hb (fun b e hT=>?_)
   subst e
   rcases hT with hT|hT
   ·obtain⟨rb,sp,⟨⟨a,c',t1,_⟩,_⟩,_⟩:=hk
    rcases h.own.2 with⟨rfl,_⟩|⟨g2,c2,cur,rfl,_,hg2,_⟩
    ·cases hT
    ·cases hT
     rw[t1] at hg2
     simp at hg2
   ·have:=(h.low b (zmg a2)).1
    omega
  ·obtain rfl:i=q:=by
    have:=(zgs a2).1
    rw[List.length_append,hq] at this
    simp at this
    omega
   rw[List.getElem?_append_right (by omega),hq,Nat.sub_self] at a2
   cases a2
   rw[ht] at a1
   rw[hpt] at a3
   cases a1
   cases a3
   refine k7.buts hb2 (fun b e hT=>?_)
   subst e
   rcases hT with hT|hT
   ·have:=(hvlt _ hT).2
    omega
   ·omega
 ·refine List.pairwise_append.2 ⟨h.up,List.pairwise_singleton _ _,fun x hx y hy=>?_⟩
  rw[List.mem_singleton.1 hy]
  exact(h.low x hx).2
 ·rcases List.mem_append.1 hpc with hpc|hpc
  ·exact⟨(h.low pc hpc).1,Nat.lt_of_lt_of_le (h.low pc hpc).2 hb.size⟩
  ·rw[List.mem_singleton.1 hpc]
   obtain⟨x,hx⟩:=hknew
   exact⟨by rw[hlo];exact h.sz,Nat.lt_of_lt_of_le (zag hx).1 hb2.size⟩
theorem Zqc (n j:Nat)(hj:j<n):(madeCells (Value.string ⟨#[]⟩).cells (n*1)).toList[j]? =some (.string ⟨#[]⟩):=by
 simp[madeCells,Value.cells,hj,Nat.mod_one]
theorem ZmK {T0:Nat→Prop}{pm n l:Nat}{ts:List JT}{pts:List Nat}{p:Nat→List ByteArray→Bool}{w W:World}{lo pw:Nat}{pcs:List Nat}{v:Value}{wr:World}(M:ZrB w T0 pm n ts pts p)(hB0:∀b,T0 b→b<w.heap.size)(h:ZmJ pm n l ts pts w W lo pw pcs v wr)(hq:pcs.length=ts.length)(hpw:pw<lo)(hwp:w.heap.size<pw)
  (J:Ze7) (Jx:(Nat→Prop)→World→Prop) (hJ:∀done (C T:Nat→Prop) (W W':World),J done C W→Zah T W W'→(∀b,T b→¬C b)→J done C W') (hJx:∀(C T:Nat→Prop) (W W':World),Jx C W→Zah T W W'→(∀b,T b→¬C b)→Jx C W') (h0:J [] T0 w)
  (hY:∀(done:List (List ByteArray)) (x:List ByteArray) (W:World) (C:Nat→Prop) (a:Option Addr),J done C W→Zah T0 w W→(∀b,C b→b<W.heap.size)→x.length=n→Zai W a n x→(∀b,(Value.slice a n n).ownBlock=some b→¬C b)→(∀t∈ts,t.vars.map (gt x)∈t.rows)→(∀u,u≤n→p u (x.take u)=true)→
   YieldAt Fence.wide 3 Tryz.prog l #[.slice a n n] W fun e W'=>∃C',((e=.returned (.bool true)∧J (done++[x]) C' W')∨(e=.returned (.bool false)∧Jx C' W'))∧Zah C W W'∧(∀b,C' b→C b∨W.heap.size≤b)∧∀b,C' b→b<W'.heap.size):
  Calls Tryz.prog 108 #[.pointer (some ⟨pw,0,none⟩),.int .i64 0] wr fun e w'=>(∃b:Bool,e=.returned (.bool b))∧∃C,J (Zcv ts p n 0 []) C w'∨Jx C w':=by
 let sc:Scn:=⟨wr,fun b=>T0 b∨b=w.heap.size∨b∈pcs,pw,pm,w.heap.size,n,n,.func (.yield l) #[] #[],ts,pcs,pts,p,lo⟩
 obtain⟨s0,s1,s2,s3,s4⟩:=h.top
 have hnn:=M.nn
 have envW:∀W',Zah sc.T wr W'→Zah T0 w W':=fun W' hb=>ZbO ((Zah.refl _ w).ext h.ext) hb (fun b hT=>by
  rcases hT with hT|hT|hT
  ·exact .inl hT
  ·exact .inr (by omega)
  ·exact .inr (by have:=(h.low b hT).1;omega))
 have npw:¬sc.T pw:=by
  rintro (hT|hT|hT)
  ·have:=hB0 _ hT;omega
  ·omega
  ·have:=(h.low pw hT).1
   omega
 have ST:Sta sc:=⟨M.jok,M.big,M.all,⟨by show n≤_;omega,by show ts.length≤_;omega⟩,⟨hq,M.lens⟩,fun W' hb i t pt a b=>by
  obtain⟨aT,ct,htr⟩:=M.tries
  exact(htr W' (envW W' hb)).2.2 i t pt a b,fun W' hb=>⟨hb.cell npw s0,hb.cell npw s3,hb.cell npw s4⟩⟩
 have SB:Stb sc:=by
  refine⟨fun hn=>?_,?_,?_,fun v W' x hv hb hx hr=>?_⟩
  ·obtain⟨t0,ht0,_⟩:=M.all 0 hn
   have hpos:0<pcs.length:=by rw[hq];exact List.length_pos_of_mem ht0
   obtain⟨g,cg,rfl,_⟩:=Za0 h.own hpos
   have hg:=(h.own.lt g rfl).1
   have ng:¬sc.T g:=by
    rintro (hT|hT|hT)
    ·have:=hB0 _ hT;omega
    ·omega
    ·obtain⟨i,hi⟩:=List.mem_iff_getElem?.1 hT
     have hil:=(zgs hi).1
     have hi1:i<ts.length:=by omega
     have hi2:i<pts.length:=by rw[M.lens];omega
     obtain⟨rb,sp,⟨⟨a,c',t1,_⟩,_⟩,_⟩:=h.cur i ts[i] g pts[i] (zge hi1) hi (zge hi2)
     rcases h.own.2 with⟨e,_⟩|⟨g2,c2,cur,e,_,hg2,_⟩
     ·cases e
     ·cases e
      rw[t1] at hg2
      simp at hg2
   refine⟨g,cg,fun W' hb=>⟨?_,fun i pc hi=>?_⟩⟩
   ·have:=hb.cell npw s1
    rw[hq] at this
    exact this
   ·have:=h.own.cells (g:=g) rfl i (Zi2 pc) (by rw[List.getElem?_map,hi];rfl)
    rw[Addr.add_lit,Nat.zero_add] at this
    exact hb.cell ng this
  ·obtain⟨an,cn,hnm⟩:=M.names
   exact⟨an,cn,fun W' hb=>hnm W' (envW W' hb)⟩
  ·obtain⟨ga,ca,f,g,hat⟩:=M.at_
   exact⟨ga,ca,f,g,fun W' hb=>hat W' (envW W' hb)⟩
  ·obtain⟨gt_,ct,hte⟩:=M.tests
   obtain⟨k3,k4⟩:=hte W' (envW W' hb)
   obtain⟨a,k,c,k5,k6,k7⟩:=k4 v hv
   obtain⟨qs,q1,q2,q3⟩:=k7 x (some ⟨w.heap.size,0,none⟩) n ⟨by unfold maxLen;omega,hx,fun i z hz=>⟨w.heap.size,0,rfl,by rw[Nat.mul_one,Nat.zero_add];exact(hr i z hz).1⟩⟩ hx
   have q4:sc.p v (x.take v)=qs.all id:=q3.symm
   rw[q4]
   exact Zqb qs a k c pw pm gt_ v (n+1) ct _ n n W' q1 k5 q2 (hb.cell npw s3) (hb.cell npw s0) k3 (by show v<n+1;have:v≤n:=hv;omega) k6
 have hJs:∀done,ZbR sc (J done):=fun done C T W W' j hb hT=>hJ done C T W W' j hb (fun b hb=>(hT b hb).1)
 have hJxs:ZbR sc Jx:=fun C T W W' j hb hT=>hJx C T W W' j hb (fun b hb=>(hT b hb).1)
 have hYo:Zkq sc l J Jx:=fun done x W' C a j hb hC hx hs ho hlv hpp=>hY done x W' C a j (envW W' hb) (fun b hb=>(hC b hb).1) hx hs (fun b hb=>(ho b hb).1) hlv hpp
 have hgr:w.heap.size<wr.heap.size:=(h.row.lt _ rfl).2
 have W0:WSt sc (J []) wr [] (fun _=>[]) (fun b=>b=w.heap.size∨T0 b∨∃i:Nat,pcs[i]? =some b):=by
  refine⟨Zah.refl _ _,fun b hb=>?_,fun b hb=>?_,List.replicate n ⟨#[]⟩,fun (i b:Nat)=>pcs[i]? =some b,T0,⟨by simp;rfl,rfl,fun j y hy=>?_⟩,fun i t pc pt a1 a2 a3=>?_,fun i j b hij h1 h2=>?_,fun i b hb=>?_,by show ¬T0 w.heap.size;exact fun q=>absurd (hB0 _ q) (Nat.lt_irrefl _),hJ [] _ _ _ _ h0 (Zkp h.ext) (fun _ h=>h.elim),fun b=>Iff.rfl⟩
  ·rcases hb with hb|hb|⟨i,hb⟩
   ·exact .inl (.inr (.inl hb))
   ·exact .inl (.inl hb)
   ·exact .inl (.inr (.inr (zmg hb)))
  ·rcases hb with rfl|hb|⟨i,hb⟩
   ·exact hgr
   ·have:=hB0 _ hb;omega
   ·exact(h.low b (zmg hb)).2
  ·obtain⟨hj,e⟩:=zgs hy
   rw[List.length_replicate] at hj
   rw[List.getElem_replicate] at e
   subst e
   have hc:=h.row.cells (g:=w.heap.size) rfl j _ (Zqc n j hj)
   rw[Addr.add_lit,Nat.zero_add] at hc
   refine⟨hc,?_⟩
   rcases h.row.2 with⟨e,_⟩|⟨g2,c2,cur,e,_,hg2,_⟩
   ·cases e
   ·cases e
    show wr.frozen? ⟨w.heap.size,j,none⟩=false
    simp[World.frozen?,hg2]
  ·exact h.cur i t pc pt a1 a2 a3 |> fun k=>by
    have e:(fun b:Nat=>pcs[i]? =some b)=fun b=>b=pc:=by
     funext b
     have a2':pcs[i]? =some pc:=a2
     rw[a2']
     exact propext ⟨fun e=>by injection e with e;exact e.symm,fun e=>by rw[e]⟩
    show Zgy wr lo pc pt t.vars.length t.rows (fun b:Nat=>pcs[i]? =some b) []
    rw[e]
    exact k
  ·obtain⟨i1,e1⟩:=zgs h1
   obtain⟨i2,e2⟩:=zgs h2
   rcases Nat.lt_trichotomy i j with hlt|hlt|hlt
   ·have:=(List.pairwise_iff_getElem.1 h.up) i j i1 i2 hlt
    omega
   ·exact hij hlt
   ·have:=(List.pairwise_iff_getElem.1 h.up) j i i2 i1 hlt
    omega
  ·have:=(h.low b (zmg hb)).1
   refine⟨by show b≠w.heap.size;omega,by show ¬T0 b;exact fun q=>by have:=hB0 b q;omega⟩
 have FR:=Zrb sc l J Jx ST SB hJs hJxs rfl hYo n 0 (Nat.zero_add _) [] [] wr (fun _=>[]) _ rfl W0 ⟨Znr.zero (n:=n) M.jok _,fun i t _=>⟨by simp[Zii,JT.pre],rfl⟩⟩ (fun u hu=>absurd hu (by omega))
 refine FR.mono fun e w' hp=>?_
 rcases hp with⟨rfl,F',hw,_⟩|⟨rfl,F',hw,_⟩
 ·obtain⟨C,jc,_⟩:=hw.taken
  exact⟨⟨_,rfl⟩,C,.inl (by simpa using jc)⟩
 ·obtain⟨C,jc,_⟩:=hw.taken
  exact⟨⟨_,rfl⟩,C,.inr jc⟩
theorem Zt9 (T0:Nat→Prop)(pm n l:Nat)(ts:List JT)(pts:List Nat)(p:Nat→List ByteArray→Bool)(w:World)(M:ZrB w T0 pm n ts pts p)(hB0:∀b,T0 b→b<w.heap.size)
  (J:Ze7) (Jx:(Nat→Prop)→World→Prop) (hJ:∀done (C T:Nat→Prop) (W W':World),J done C W→Zah T W W'→(∀b,T b→¬C b)→J done C W') (hJx:∀(C T:Nat→Prop) (W W':World),Jx C W→Zah T W W'→(∀b,T b→¬C b)→Jx C W') (h0:J [] T0 w)
  (hY:∀(done:List (List ByteArray)) (x:List ByteArray) (W:World) (C:Nat→Prop) (a:Option Addr),J done C W→Zah T0 w W→(∀b,C b→b<W.heap.size)→x.length=n→Zai W a n x→(∀b,(Value.slice a n n).ownBlock=some b→¬C b)→(∀t∈ts,t.vars.map (gt x)∈t.rows)→(∀u,u≤n→p u (x.take u)=true)→
   YieldAt Fence.wide 3 Tryz.prog l #[.slice a n n] W fun e W'=>∃C',((e=.returned (.bool true)∧J (done++[x]) C' W')∨(e=.returned (.bool false)∧Jx C' W'))∧Zah C W W'∧(∀b,C' b→C b∨W.heap.size≤b)∧∀b,C' b→b<W'.heap.size):
  Calls Tryz.prog 65 #[.pointer (some ⟨pm,0,none⟩),.func (.yield l) #[] #[]] w fun e w'=>(∃v,e=.returned v)∧∃C,J (Zcv ts p n 0 []) C w'∨Jx C w':=by
 have HM:=zh M
 have HJ:=zh hJ
 have HJX:=zh hJx
 have H0:=zh h0
 have HY:=zh hY
 clear hJ hJx h0 hY
 obtain⟨an,cn,hnm⟩:=M.names
 obtain⟨aT,ct,htr⟩:=M.tries
 have hnn:=M.nn
 have hr0:Zah T0 w w:=Zah.refl _ _
 have n0:=hnm w hr0
 obtain⟨t0,t1,t2⟩:=htr w hr0
 have zp:=World.block_lt_of_cell? _ _ n0
 dsimp only at zp
 have HTR:=zh htr
 obtain⟨j0,hj,yz0,yz1,yz2⟩:=info_parts ZbI
 have MK:Hid (∀w2:World,∃wm,(Instr.makeSlice 54 (.int .i64 (n:Int)) (.int .i64 (n:Int))).run Tryz.prog w2=.ok (.slice (some ⟨w2.heap.size,0,none⟩) n n) wm∧wm.ownsRow w2.heap.size 9 1 (.slice (some ⟨w2.heap.size,0,none⟩) n n) n (madeCells (Value.string ⟨#[]⟩).cells (n*1)).toList∧w2.grownBy wm none):=fun w2=>run_make_full (P:=Tryz.prog) w2 w2.heap.size 54 9 j0 (.string ⟨#[]⟩) 1 Tryz.underlying54 hj yz0 yz1 .i64 .i64 n (by rw[yz2];omega) (by unfold maxLen;omega) (Nat.le_refl _)
 obtain⟨wm,hmk,om,gm⟩:=MK.out w
 have em:Ext w wm:=⟨gm.os,gm.tape,gm.output,gm.size,fun i hi=>gm.block i hi (by simp)⟩
 have q0:=Zac em t0
 have zpm:pm<wm.heap.size:=Nat.lt_of_lt_of_le zp em.size
 clear hr0 hnm t1 t2 M htr MK
 go_enter Tryz.func65,Tryz.ntmps65
 have hgw:w.heap.size<wm.heap.size:=(om.lt w.heap.size rfl).2
 have HOM:=zh om
 have HEM:=zh em
 go_wp2
 refine Zba (fun W hW=>?_)
 have hE:Ext w W:=by rw[hW];exact Zab em _
 have START:Hid (ZmJ pm n l ts pts w W W.heap.size wm.heap.size [] (.slice none 0 0) W):=by
  refine⟨hE,Nat.le_refl _,?_,?_,World.ownsRow_nil _ _ _ _,fun i t pc pt _ h=>by simp at h,List.Pairwise.nil,fun pc h=>by cases h⟩
  ·rw[hW]
   exact HOM.out.alloc _
  rw[hW]
  exact⟨by go_simp,by go_simp,by go_simp,by go_simp,by go_simp⟩
 have hz:wm.heap.size<W.heap.size:=by rw[hW];simp
 have HE:=zh hE
 clear hW hmk om gm em q0 t0 n0 hE
 go_loopw [22] (fun iv wr=>∃(pcs:List Nat) (v:Value),iv=.int .i64 (pcs.length:Nat)∧pcs.length≤ts.length∧ZmJ pm n l ts pts w W W.heap.size wm.heap.size pcs v wr) (fun iv _=>ts.length-(intOf iv).toNat)
 case atStart=>exact⟨[],_,rfl,Nat.zero_le _,START.out⟩
 case round=>
  clear START
  obtain⟨pcs,v,rfl,hle,hst⟩:=hrel
  have ST:=zh hst
  obtain⟨s0,s1,s2,s3,s4⟩:=hst.top
  obtain⟨q,hq⟩:∃q,pcs.length=q:=⟨_,rfl⟩
  rw[hq] at hle ⊢
  have HQ:=zh hq
  clear hst hq
  by_cases hlt:q<ts.length
  ·obtain⟨t,ht⟩:∃t,ts[q]? =some t:=⟨_,zge hlt⟩
   obtain⟨pt,hpt⟩:∃pt,pts[q]? =some pt:=⟨_,zge (by rw[HM.out.lens];exact hlt)⟩
   have hbw:Zah T0 w wr:=(Zah.refl _ _).ext ST.out.ext
   obtain⟨_,r2,r3⟩:=HTR.out wr hbw
   obtain⟨b,o,rfl,hcell⟩:=r2 q pt hpt
   have TR:=zh (r3 q t pt ht hpt)
   have HTQ:=zh ht
   have HPT:=zh hpt
   clear ht hpt
   have WK:Hid (∀W2,Ext wr W2→Calls Tryz.prog 107 #[.pointer (some ⟨pt,0,none⟩)] W2 fun e w'=>e=.returned (.pointer (some ⟨W2.heap.size,0,none⟩))∧Zgy w' W.heap.size W2.heap.size pt t.vars.length t.rows (fun b=>b=W2.heap.size) []∧Ext W2 w'):=fun W2 h2=>Ztq (TR.out.ext h2) (Nat.le_trans ST.out.sz h2.size)
   have WK2:Hid (∀W2,Ext wr W2→W2.heap.size=wr.heap.size→Calls Tryz.prog 107 #[.pointer (some ⟨pt,0,none⟩)] W2 fun e w'=>e=.returned (.pointer (some ⟨wr.heap.size,0,none⟩))∧Zgy w' W.heap.size wr.heap.size pt t.vars.length t.rows (fun b=>b=wr.heap.size) []∧Ext W2 w'):=fun W2 h2 e2=>by
    have:=WK.out W2 h2
    rw[e2] at this
    exact this
   have WKD:=zh (WK2.out wr.drew (Zaf zbr) rfl)
   have hq6:q≤1000000:=by omega
   have OWN:Hid (wr.ownsRow W.heap.size 176 1 v q (pcs.map Zi2)):=by
    show World.ownsRow _ _ _ _ _ _ _
    rw[←HQ.out]
    exact ST.out.own
   have hvb:v.ownBlock≠some wm.heap.size:=fun e=>by
    have:=(OWN.out.lt _ e).1
    omega
   have hpw:wm.heap.size<wr.heap.size:=Nat.lt_of_lt_of_le hz ST.out.sz
   clear r2 r3 hbw WK
   go_upto_region 4 with (fail)
   go_region_law (first
    |(refine ZiJ w7 wr.heap.size W.heap.size v q (pcs.map Zi2) OW7.out hq6 HZ7.out (by rfl) _ _ (by rfl) (by rfl) (by rfl) ?_;intro g6 c6 w6 p1 p2;obtain⟨u1,u2⟩:=ZeT p2 hvb hpw7;have u3:=(u1 1).trans y1;have u4:=(u2 1).trans y2;have P1:=zh p1;have P2:=zh p2;clear p1 p2 u1 u2)
    |(go_simp;go_wp2_with (go_at_call 107;(with_reducible refine WKD.out.mono ?_);rintro e w7 ⟨rfl,k7,e7⟩;have E7:Ext wr w7:=Zaa (Zaf (Below.refl _ wr)) e7;have y1:=Zac E7 s1;have y2:w7.frozen? ⟨wm.heap.size,1,none⟩=false:=(E7.frozen (p:=⟨wm.heap.size,1,none⟩) hpw).trans s2;have OW7:=zh (Zar OWN.out E7);have HZ7:Hid (W.heap.size≤w7.heap.size):=Nat.le_trans ST.out.sz E7.size;have hpw7:wm.heap.size<w7.heap.size:=Nat.lt_of_lt_of_le hpw E7.size;have y3:(w7.alloc (.cells #[.pointer (some ⟨wr.heap.size,0,none⟩)] 176)).cell? ⟨wm.heap.size,1,none⟩=some v:=Zac (Zab (Below.refl _ w7) _) y1))
    |fail)
   all_goals
    go_wp2
    go_roundw
    case rel=>exact⟨pcs++[wr.heap.size],_,by rw[List.length_append,HQ.out];simp,by rw[List.length_append,HQ.out];exact hlt,ST.out.next HQ.out HTQ.out HPT.out E7 k7 P1.out P2.out rfl hz hgw⟩
    case measure=>simp[intOf];omega
  ·obtain rfl:q=ts.length:=by omega
   have FRM:Hid (Calls Tryz.prog 108 #[.pointer (some ⟨wm.heap.size,0,none⟩),.int .i64 0] wr fun e w'=>(∃b:Bool,e=.returned (.bool b))∧∃C,J (Zcv ts p n 0 []) C w'∨Jx C w'):=ZmK HM.out hB0 ST.out HQ.out hz hgw J Jx HJ.out HJX.out H0.out HY.out
   go_wp2_with (go_at_call 108;(with_reducible refine FRM.out.mono ?_);rintro e w7 ⟨⟨b7,rfl⟩,C7,j7⟩)
   go_end0
   exact⟨⟨_,rfl⟩,C7,j7⟩
open K (ZaG Zda ZaQ Zaq Zbl ZaR Zbw Zcm)
attribute [local go_sem] Oper.semAt_some
set_option linter.unusedSimpArgs false
def Zf2 (n:ByteArray):ZaG:=⟨1,n⟩
theorem tkA {P:Program}{ops:Array Oper}{Q:Exit→Act→World→Prop}{md:Region.Mode}{S:World→Prop}{i:Nat}{oi:Oper}{v:Value}{fuel:Nat}{listed:Array Bool}{a:Act}{w:World}(hi:ops[i]? =some oi)(hy:YieldsIf P ops S oi v a)(h:wpAnyH P md ops Q S fuel (listed.setIfInBounds i true) (a.put oi.dst v) w)(hs:Region.noSelect ops=true:=by kernel_rfl)(hf:Region.free md ops listed i=true:=by kernel_rfl)(hr:(Region.ready md ops listed).contains i=true:=by kernel_rfl)(hQ:∀c a w,Q (.panic c) (a.put oi.dst v) w→Q (.panic c) a w:=by exact fun _ _ _ h=>h)(hS:S w:=by assumption):wpAnyH P md ops Q S (fuel+1) listed a w:=wpAnyH_take hi hs hf hr hQ hy hS h
def Zdv (names:List ByteArray)(ts:List ZaG)(k:Nat):List Nat:=(List.range k).filter fun i=>decide (Zf2 (gt names i)∈ts)
abbrev ZaC (names:List ByteArray)(ts:List ZaG):List Nat:=Zdv names ts names.length
theorem Zg6 (names:List ByteArray)(ts:List ZaG)(k:Nat):Zdv names ts (k+1)=Zdv names ts k++if Zf2 (gt names k)∈ts then [k] else []:=by
 unfold Zdv
 rw[List.range_succ,List.filter_append]
 by_cases h:Zf2 (gt names k)∈ts <;> simp[h]
theorem ZmL (names:List ByteArray)(ts:List ZaG)(k:Nat):(Zdv names ts k).length≤k:=by
 have:=List.length_filter_le (fun i=>decide (Zf2 (gt names i)∈ts)) (List.range k)
 rw[List.length_range] at this
 exact this
def Zf3 (ts:List ZaG)(x:List ByteArray)(i:Nat):Bool:=match ts[i]? with
 |some y=>!((decide (y.kind=3)&&!decide (gt x i=y.text))||(decide (y.kind=1)&&!decide (gt x (Zg5 ts y).toNat=gt x i)))
 |none=>true
def ZhE (ts:List ZaG)(x:List ByteArray):Bool:=(List.range ts.length).all (Zf3 ts x)
def ZkF (names:List ByteArray)(ts:List ZaG)(vars:List Nat)(x:List ByteArray):List ByteArray:=vars.map fun v=>gt x (Zg5 ts (Zf2 (gt names v))).toNat
def ZbC (names:List ByteArray)(ts:List ZaG)(acc:List (List ByteArray))(x:List ByteArray):List (List ByteArray):=if x.length=ts.length∧ZhE ts x=true then ZbY (ZaC names ts).length acc (ZkF names ts (ZaC names ts) x) else acc
def Zbv (names:List ByteArray)(ts:List ZaG)(rs:List (List ByteArray)):List (List ByteArray):=rs.foldl (ZbC names ts) []
abbrev ZhV (n:Nat):Value:=.int .i64 (n:Nat)
def Zqd (names:List ByteArray)(ts:List ZaG)(rs:List (List ByteArray))(w:World)(e:Ending)(w':World):Prop:=∃av cv pr,e=.returned (.agg #[.slice av (ZaC names ts).length cv,.pointer (some ⟨pr,0,none⟩)])∧w'.ownsRow w.heap.size 3 1 (.slice av (ZaC names ts).length cv) (ZaC names ts).length ((ZaC names ts).map ZhV)∧Zay w' (pr+1) pr (ZaC names ts).length (Zbv names ts rs)∧w.heap.size≤pr∧Ext w w'
structure Ld1 (W:World)(p7:Nat)(vs:List Nat)(v:Value)(wj:World):Prop where
 but:Zah (fun b=>b=p7) W wj
 c0:wj.cell? ⟨p7,0,none⟩=some v
 c1:wj.cell? ⟨p7,1,none⟩=some (.pointer none)
 f0:wj.frozen? ⟨p7,0,none⟩=false
 f1:wj.frozen? ⟨p7,1,none⟩=false
 own:wj.ownsRow W.heap.size 3 1 v vs.length (vs.map ZhV)
 ty:Ty wj p7 163
theorem Ld1.ext {W wj wk:World}{p7:Nat}{vs:List Nat}{v:Value}(h:Ld1 W p7 vs v wj)(hp:p7<W.heap.size)(e:Ext wj wk):Ld1 W p7 vs v wk:=
 have hl:p7<wj.heap.size:=Nat.lt_of_lt_of_le hp h.but.size
 ⟨h.but.ext e,Zac e h.c0,Zac e h.c1,(e.frozen (p:=⟨p7,0,none⟩) hl).trans h.f0,(e.frozen (p:=⟨p7,1,none⟩) hl).trans h.f1,Zar h.own e,h.ty.ext e⟩
theorem Ld1.push {W wj w6:World}{p7 g c:Nat}{vs:List Nat}{v:Value}{o:Obj}{k:Nat}(h:Ld1 W p7 vs v wj)(hp:p7<W.heap.size)(own:w6.ownsRow W.heap.size 3 1 (.slice (some ⟨g,0,none⟩) (vs.length+1) c) (vs.length+1) (vs.map ZhV++[ZhV k]))(q:(wj.alloc o).grownBy w6 v.ownBlock):
  w6.cell? ⟨p7,0,none⟩=some v∧w6.frozen? ⟨p7,0,none⟩=false∧Ld1 W p7 (vs++[k]) (.slice (some ⟨g,0,none⟩) (vs.length+1) c) (w6.setCell ⟨p7,0,none⟩ (.slice (some ⟨g,0,none⟩) (vs.length+1) c)):=by
 have hl:p7<wj.heap.size:=Nat.lt_of_lt_of_le hp h.but.size
 have hne:v.ownBlock≠some p7:=fun e=>by have:=(h.own.lt _ e).1;omega
 obtain⟨u1,u2⟩:=ZeT q hne hl
 have hg:=(own.lt g rfl).1
 have tb:Ty w6 p7 163:=h.ty.but (((Zah.refl (fun b=>v.ownBlock=some b) wj).alloc o).grown q (fun b e=>.inl e)) hne
 refine⟨(u1 0).trans h.c0,(u2 0).trans h.f0,?_,World.cell?_setCell_same _ _ _ ((u1 0).trans h.c0),?_,?_,?_,?_,?_⟩
 ·exact((h.but.alloc o).grown q (fun b e=>.inr (h.own.lt b e).1)).set (.inl rfl) _ _
 ·rw[World.cell?_setCell_other _ _ _ _ (by simp)]
  exact(u1 1).trans h.c1
 ·rw[World.frozen?_setCell]
  exact(u2 0).trans h.f0
 ·rw[World.frozen?_setCell]
  exact(u2 1).trans h.f1
 ·rw[List.length_append,List.map_append]
  exact Zam own (.inr (fun e=>by cases e;omega)) _
 ·obtain⟨cs,x,q⟩:=tb
  obtain⟨cs',q'⟩:=Zbk q 0 (.slice (some ⟨g,0,none⟩) (vs.length+1) c)
  exact⟨cs',x,q'⟩
theorem Zpz {W:World}{r:Nat}{o:Obj}{t:TypeId}(h:W.heap[r]? =some o)(ho:o.isCells=false):¬Ty W r t:=by
 rintro⟨cs,x,e⟩
 rw[h] at e
 cases e
 cases ho
theorem ZhW {W W':World}{row:Option Nat}(hg:W.grownBy W' row):Zah (fun b=>row=some b) W W':=(Zah.refl _ _).grown hg (fun _ e=>.inl e)
theorem Zay.turned {W W':World}{row:Option Nat}{B lo pb ar:Nat}{rs:List (List ByteArray)}(h:Zay W lo pb ar rs)(hg:W.grownBy W' row)(hr:∀r,row=some r→B≤r∧∃o:Obj,W.heap[r]? =some o∧o.isCells=false)(hp:pb<B):Zay W' lo pb ar rs:=
 (h.but (ZhW hg) (fun e=>by have:=(hr _ e).1;omega) (fun g hgi e=>by obtain⟨_,o,h1,h2⟩:=hr _ e;exact Zpz h1 h2 (h.item_ty hgi).1) (fun b e ht=>by obtain⟨_,o,h1,h2⟩:=hr _ e;exact Zpz h1 h2 ht)).1
theorem Ty.turned {W W':World}{row:Option Nat}{b:Nat}{t:TypeId}(h:Ty W b t)(hg:W.grownBy W' row)(hr:∀r,row=some r→∃o:Obj,W.heap[r]? =some o∧o.isCells=false):Ty W' b t:=
 h.but (ZhW hg) (fun e=>by obtain⟨o,h1,h2⟩:=hr _ e;exact Zpz h1 h2 h)
theorem Zay.raise {w:World}{lo lo' pb ar:Nat}(h:Zay w lo pb ar [])(hi:ZaJ w pb=none)(hp:pb<lo'):Zay w lo' pb ar []:=by
 obtain⟨a,c,vs,h1,h2,h3⟩:=h.row
 have e:=Za6 h1
 rw[hi] at e
 obtain rfl:a=none:=by
  cases a with
  |none=>rfl
  |some ad=>cases e
 have hc:=(ZaF h2).2 rfl
 refine⟨hp,h.c0,h.c2,h.free,none,c,[],h1,?_,fun i r v hr=>by simp at hr⟩
 rw[hc.2]
 exact World.ownsRow_nil _ _ _ _
theorem ZjA {B:Nat}{W W':World}{T:Nat→Prop}(h:Zah T W W')(hT:∀b,T b→∃t,Ty W b t):KeepsFrom B W W':=
 ⟨h.size,fun k o _ hk ho=>(h.block k (zag hk).1 (fun q=>by obtain⟨t,ht⟩:=hT k q;exact Zpz hk ho ht)).trans hk⟩
structure ZmM (w:World)(lo p6 pr m:Nat)(vl:List Value)(av:Option Addr)(cv:Nat)(rs:List (List ByteArray))(W:World):Prop where
 c0:W.cell? ⟨p6,0,none⟩=some (.slice av m cv)
 c1:W.cell? ⟨p6,1,none⟩=some (.pointer (some ⟨pr,0,none⟩))
 rows:Zay W lo pr m rs
 own:W.ownsRow w.heap.size 3 1 (.slice av m cv) m vl
 ext:Ext w W
theorem ZmM.turned {w W W':World}{row:Option Nat}{B lo p6 pr m:Nat}{vl:List Value}{av:Option Addr}{cv:Nat}{rs:List (List ByteArray)}(h:ZmM w lo p6 pr m vl av cv rs W)(hg:W.grownBy W' row)(hr:∀r,row=some r→B≤r∧∃o:Obj,W.heap[r]? =some o∧o.isCells=false)(hp:pr<B)(h6:p6<B)(hw:w.heap.size≤B):ZmM w lo p6 pr m vl av cv rs W':=
 have hne:¬row=some p6:=fun e=>by have:=(hr _ e).1;omega
 ⟨(ZhW hg).cell hne h.c0,(ZhW hg).cell hne h.c1,h.rows.turned hg hr hp,(ZhW hg).own h.own (fun b e q=>by obtain⟨_,o,h1,h2⟩:=hr _ q;exact Zpz h1 h2 (ZaN h.own e)),Zaw h.ext (ZhW hg) (fun b hb e=>by have:=(hr _ e).1;omega)⟩
theorem ZjB {names:List ByteArray}{ts:List ZaG}{rs:List (List ByteArray)}(h:∀r∈rs,r.length≠ts.length):Zbv names ts rs=[]:=by
 unfold Zbv
 suffices ∀acc,rs.foldl (ZbC names ts) acc=acc from this _
 induction rs with
 |nil=>intro acc;rfl
 |cons r rs ih=>
  intro acc
  rw[List.foldl_cons,ih (fun r' hr'=>h r' (by simp[hr']))]
  unfold ZbC
  rw[if_neg (fun q=>h r (by simp) q.1)]
theorem Zg7 (names:List ByteArray)(ts:List ZaG)(rs:List (List ByteArray))(h:(ZaC names ts).length≤64):Zbs (ZaC names ts).length (Zbv names ts rs):=by
 unfold Zbv
 suffices ∀acc,Zbs (ZaC names ts).length acc→Zbs (ZaC names ts).length (rs.foldl (ZbC names ts) acc) from this _ (Zbs.nil h)
 induction rs with
 |nil=>intro acc ha;exact ha
 |cons r rs ih=>
  intro acc ha
  rw[List.foldl_cons]
  refine ih _ ?_
  unfold ZbC
  split
  ·exact ha.add _
  ·exact ha
theorem ZkG {rs:List (List ByteArray)}{pre:List {j:Nat // j<rs.length}}{r:List ByteArray}(h:r∈ZaM rs pre):r∈rs:=by
 obtain⟨x,_,e⟩:=List.mem_map.1 h
 rw[zge x.2] at e
 rw[←e]
 exact List.getElem_mem _
theorem Zqe (tmps:Array Value)(p6:Nat)(v0 v1:Value)(W:World)(h6:tmps.getD 6 undef=.pointer (some ⟨p6,0,none⟩))(c0:W.cell? ⟨p6,0,none⟩=some v0)(c1:W.cell? ⟨p6,1,none⟩=some v1):(results Tryz.f102 tmps).run Tryz.prog W=.ok (.agg #[v0,v1]) W:=by
 have h:tmps[6]?.getD undef=.pointer (some ⟨p6,0,none⟩):=by rw[←h6];simp
 simp only[results,Tryz.f102]
 go_simp
theorem ZrC (names:List ByteArray)(a:Zda)(aa:Option Addr)(na ca:Nat)(an:Option Addr)(n cn:Nat)(lo bb:Nat)(f:ZaT)(w:World)(hb:Zbo w lo bb f)(ht:Zaq w aa na a.terms)(hs:Zai w an n names)(hn:n≤1000000)(hna:na≤1000000)(h64:(ZaC names a.terms).length≤64):
  Calls Tryz.prog 102 #[.agg #[.string a.pred,.slice aa na ca],.pointer (some ⟨bb,0,none⟩),.slice an n cn] w (Zqd names a.terms (Zan f a.pred) w):=by
 obtain⟨i0,hi,hz0,hz1,hz2⟩:=info_parts ZgJ
 have HB:=zh hb
 have HT:=zh ht
 have HS:=zh hs
 have HNL:=zh hs.2.1
 have H64:=zh h64
 clear hb ht hs h64
 refine(callsIn_wide (n:=5)).1 ?_
 refine callsIn_of_wp_marks Tryz.func102 rfl trivial ?_
 simp only[Tryz.ntmps102,List.size_toArray,List.length_cons,List.length_nil,Nat.reduceAdd,Nat.reduceSub,Array.replicate_succ,Array.replicate_zero,List.push_toArray,List.append_toArray,List.nil_append,List.cons_append]
 refine wpIn_wide.2 ?_
 go_wp2
 go_step3
 go_wp2
 refine Zba (fun W hW=>?_)
 obtain⟨p7,hp7⟩:∃p7,w.heap.size+1+1+1=p7:=⟨_,rfl⟩
 obtain⟨p6,hp6⟩:∃p6,w.heap.size+1+1=p6:=⟨_,rfl⟩
 obtain⟨p5,hp5⟩:∃p5,w.heap.size+1=p5:=⟨_,rfl⟩
 obtain⟨p3,hp3⟩:∃p3,w.heap.size=p3:=⟨_,rfl⟩
 have EW:Hid (Ext w W):=by show Ext _ _;rw[hW];exact Zab (Zab (Zab (Zab zbr _) _) _) _
 have SZ:Hid (W.heap.size=p7+1∧p7=p6+1∧p6=p5+1∧p5=p3+1∧p3=w.heap.size):=by refine⟨?_,?_,?_,?_,?_⟩ <;> first|omega|(rw [hW];simp;omega)
 have C3:Hid (W.cell? ⟨p3,1,none⟩=some (.slice aa na ca)∧W.cell? ⟨p3,0,none⟩=some (.string a.pred)):=by constructor <;> (rw [hW,←hp3];go_simp)
 have C5:Hid (W.cell? ⟨p5,0,none⟩=some (.slice an n cn)):=by show _=_;rw[hW,←hp5];go_simp
 have C6:Hid (W.cell? ⟨p6,0,none⟩=some (.slice none 0 0)∧W.cell? ⟨p6,1,none⟩=some (.pointer none)∧W.frozen? ⟨p6,0,none⟩=false∧W.frozen? ⟨p6,1,none⟩=false):=by refine⟨?_,?_,?_,?_⟩ <;> (rw [hW,←hp6];go_simp)
 have L0:Hid (Ld1 W p7 [] (.slice none 0 0) W):=by
  refine⟨Zah.refl _ _,?_,?_,?_,?_,World.ownsRow_nil _ _ _ _,?_⟩
  ·rw[hW,←hp7];go_simp
  ·rw[hW,←hp7];go_simp
  ·rw[hW,←hp7];go_simp
  ·rw[hW,←hp7];go_simp
  ·refine⟨#[.slice none 0 0,.pointer none],(0,0),?_⟩
   have:=heap_alloc_new (((w.alloc (.cells #[.string a.pred,.slice aa na ca] 24)).alloc (.cells #[.slice an n cn] 54)).alloc (.cells #[.slice none 0 0,.pointer none] 163)) (.cells #[.slice none 0 0,.pointer none] 163)
   rw[hW,←hp7]
   simpa using this
 have TY6:Hid (Ty W p6 163):=by
  refine⟨#[.slice none 0 0,.pointer none],(0,0),?_⟩
  have:=heap_alloc_new ((w.alloc (.cells #[.string a.pred,.slice aa na ca] 24)).alloc (.cells #[.slice an n cn] 54)) (.cells #[.slice none 0 0,.pointer none] 163)
  rw[hW,←hp6]
  refine((Zab zbr (.cells #[.slice none 0 0,.pointer none] 163)).block _ (by simp)).trans ?_
  simpa using this
 have P7:Hid (p7<W.heap.size):=by have:=SZ.out.1;show _<_;omega
 rw[hp7,hp6,hp5,hp3]
 clear hW hp7 hp6 hp5 hp3
 have c5:=C5.out
 go_loopw [8,9,18] (fun _ _ u wj=>∃k:Nat,k≤n∧u=.int .i64 k∧∃v,Ld1 W p7 (Zdv names a.terms k) v wj) (fun _ _ u _=>n-(intOf u).toNat)
 case atStart=>exact⟨0,by omega,rfl,_,L0.out⟩
 case round=>
  obtain⟨k,hk,rfl,v,hst⟩:=hrel
  have ST:=zh hst
  have EWR:Hid (Zah (fun b=>b=p7) W wr):=hst.but
  have EX:Hid (Ext w wr):=Zaw EW.out hst.but (fun b hb e=>by have:=SZ.out;omega)
  have ge5:∀{b:Nat} {o v},b≠p7→W.cell? ⟨b,o,none⟩=some v→wr.cell? ⟨b,o,none⟩=some v:=fun hb h=>EWR.out.cell hb h
  have c3:=ge5 (by have:=SZ.out;omega) C3.out.1
  clear hst
  by_cases hlt:k<n
  ·have hki:(k:Int)<(n:Int):=by omega
   obtain⟨y,b0,o0,hx,rfl,h2⟩:=(HS.out.keep EX.out).2.at hlt
   rw[Nat.mul_one] at h2
   have h3:wr.cell? ⟨b0,o0+k,none⟩=some (.string y):=h2
   have HY:Hid (gt names k=y):=by
    show _=_
    unfold gt
    rw[hx]
    rfl
   clear hx h2 ge5
   have CT:Hid (Calls Tryz.prog 129 #[.slice aa na ca,.agg #[.int .i64 1,.string y]] wr fun e w'=>e=.returned (.bool (decide (Zf2 y∈a.terms)))∧Ext wr w'):=Zqa a.terms (Zf2 y) aa na ca wr (HT.out.keep EX.out)
   obtain⟨bq,hbq⟩:∃b,decide (Zf2 y∈a.terms)=b:=⟨_,rfl⟩
   have HBQ:=zh hbq
   rw[hbq] at CT
   clear hbq
   cases bq with
   |false=>
    go_wp2_with (go_at_call 129;(with_reducible refine CT.out.mono ?_);rintro e w5 ⟨rfl,e5⟩)
    go_roundw
    case rel=>
     refine⟨k+1,by omega,by go_num,v,?_⟩
     rw[Zg6,HY.out,if_neg (of_decide_eq_false HBQ.out),List.append_nil]
     exact ST.out.ext P7.out e5
    case measure=>simp[intOf];omega
   |true=>
    have hlen:=ZmL names a.terms k
    have HSZ:Hid (W.heap.size≤wr.heap.size):=EWR.out.size
    obtain⟨m,hm⟩:∃m,(Zdv names a.terms k).length=m:=⟨_,rfl⟩
    have hml:m≤1000000:=by omega
    have OWN:Hid (∀w5,Ext wr w5→Ld1 W p7 (Zdv names a.terms k) v w5∧w5.ownsRow W.heap.size 3 1 v m ((Zdv names a.terms k).map ZhV)∧w5.cell? ⟨p7,0,none⟩=some v∧W.heap.size≤w5.heap.size):=fun w5 e5=>⟨ST.out.ext P7.out e5,by rw[←hm];exact(ST.out.ext P7.out e5).own,(ST.out.ext P7.out e5).c0,Nat.le_trans HSZ.out e5.size⟩
    have HM:=zh hm
    clear hm hlen
    go_wp2_with (first
     |(go_at_call 129;(with_reducible refine CT.out.mono ?_);rintro e w5 ⟨rfl,e5⟩;obtain⟨L5,O5,c50,z5⟩:=OWN.out w5 e5;have c51:=fun o=>Zac (Zab (Below.refl _ w5) o) c50)
     |(at_builtin;go_loud (refine wpList_append_lies _ rfl _ _ 161 rfl W.heap.size 3 i0 (.int .i64 0) 1 8 Tryz.underlying161 hi hz0 hz1 hz2 rfl (by decide) v m ((Zdv names a.terms k).map ZhV) rfl (O5.alloc _) ⟨w5.heap.size,0,none⟩ 1 1 [ZhV k] rfl rfl (Zgt _ _ _) (fun x hx=>by cases List.mem_singleton.1 hx;rfl) (Nat.zero_lt_one) (by unfold maxLen;omega) (by omega) (Za3 z5) _ rfl ?_);intro g7 p8 w7 own7 q7 hat7 hlt7;rw[←HM.out] at own7;obtain⟨d0,d1,d2⟩:=L5.push P7.out own7 q7))
    go_roundw
    case rel=>
     refine⟨k+1,by omega,by go_num,.slice (some ⟨g7,0,none⟩) (m+1) p8,?_⟩
     rw[Zg6,HY.out,if_pos (of_decide_eq_true HBQ.out)]
     rw[HM.out] at d2
     exact d2
    case measure=>simp[intOf];omega
  ·obtain rfl:k=n:=by omega
   have hge:¬(k:Int)<(k:Int):=by omega
   have HTV:Hid (Zdv names a.terms k=ZaC names a.terms):=by show _=_;rw[←HNL.out]
   rw[HTV.out] at ST
   obtain⟨av,cv,rfl,_⟩:=Zag ST.out.own
   have e0:=ST.out.c0
   have e1:=ST.out.c1
   have z1:=ST.out.f1
   have NR:=zh (Zeo (ZaC names a.terms).length H64.out wr)
   have c32:=ge5 (by have:=SZ.out;omega) C3.out.2
   obtain⟨m,hm⟩:∃m,(ZaC names a.terms).length=m:=⟨_,rfl⟩
   have HM:=zh hm
   rw[hm] at e0 NR
   have HSZ:Hid (p7<wr.heap.size):=Nat.lt_of_lt_of_le P7.out EWR.out.size
   clear hm
   go_wp2_with (go_at_call 24;(with_reducible refine NR.out.mono ?_);rintro e w2 ⟨rfl,v2,t2,i2,e2,s2⟩;have y1:=Zac e2 e1;have y2:=(e2.frozen (p:=⟨p7,1,none⟩) HSZ.out).trans z1)
   refine Zba (fun W3 hW3=>?_)
   obtain⟨pr,hpr⟩:∃pr,wr.heap.size=pr:=⟨_,rfl⟩
   rw[hpr] at v2 t2 i2 hW3 s2
   rw[hpr]
   have hp7r:p7<pr:=by have:=HSZ.out;omega
   have B3:Zah (fun b=>b=p7) w2 W3:=by rw[hW3];exact(Zah.refl (fun b=>b=p7) _).set (.inl rfl) _ _
   have EX2:Ext w w2:=Zaa EX.out e2
   have P3S:=SZ.out
   have EW3:Hid (Ext w W3):=Zaw EX2 B3 (fun b hb e=>by omega)
   have D3:Hid (W3.cell? ⟨p3,0,none⟩=some (.string a.pred)∧W3.cell? ⟨p3,1,none⟩=some (.slice aa na ca)):=⟨B3.cell (by omega) (Zac e2 c32),B3.cell (by omega) (Zac e2 c3)⟩
   have D5:Hid (W3.cell? ⟨p5,0,none⟩=some (.slice an k cn)):=B3.cell (by omega) (Zac e2 (ge5 (by omega) C5.out))
   have d6:∀o v,W.cell? ⟨p6,o,none⟩=some v→W.frozen? ⟨p6,o,none⟩=false→W3.cell? ⟨p6,o,none⟩=some v∧W3.frozen? ⟨p6,o,none⟩=false:=fun o v h1 h2=>⟨B3.cell (by omega) (Zac e2 (ge5 (by omega) h1)),ZaE B3 (by omega) (by have:=e2.size;omega) ((e2.frozen (p:=⟨p6,o,none⟩) (show p6<wr.heap.size by omega)).trans (ZaE EWR.out (by omega) (by omega) h2))⟩
   have D6:Hid ((W3.cell? ⟨p6,0,none⟩=some (.slice none 0 0)∧W3.frozen? ⟨p6,0,none⟩=false)∧W3.cell? ⟨p6,1,none⟩=some (.pointer none)∧W3.frozen? ⟨p6,1,none⟩=false):=⟨d6 _ _ C6.out.1 C6.out.2.2.1,d6 _ _ C6.out.2.1 C6.out.2.2.2⟩
   have D7:Hid (W3.cell? ⟨p7,0,none⟩=some (.slice av m cv)∧W3.cell? ⟨p7,1,none⟩=some (.pointer (some ⟨pr,0,none⟩))):=by
    rw[hW3]
    refine⟨?_,World.cell?_setCell_same _ _ _ y1⟩
    rw[World.cell?_setCell_other _ _ _ _ (by simp)]
    exact Zac e2 e0
   have OW3:Hid (W3.ownsRow w.heap.size 3 1 (.slice av m cv) m ((ZaC names a.terms).map ZhV)):=by
    have h1:=Zar ST.out.own e2
    rw[HM.out] at h1
    exact Zao (B3.own h1 (fun b e q=>by have:=(h1.lt b e).1;subst q;omega)) (by have:=EW.out.size;omega)
   have V3:Hid (Zay W3 (pr+1) pr m []∧ZaJ W3 pr=ZaJ w2 pr):=v2.but B3 (by omega) (fun g hg=>by rw[i2] at hg;cases hg) (fun b hb ht=>by subst hb;exact(ST.out.ty.ext e2).ne ht (by decide) rfl)
   have TY63:Hid (Ty W3 p6 163):=((TY6.out.but EWR.out (by omega)).ext e2).but B3 (by omega)
   have T3:Hid (Ty W3 pr 100∧ZaJ W3 pr=none):=⟨t2.but B3 (by omega),V3.out.2.trans i2⟩
   have PS:Hid (p3<p5∧p5<p6∧p6<p7∧p7<pr∧w.heap.size=p3):=by refine⟨?_,?_,?_,?_,?_⟩ <;> omega
   have EB:=zh (Zoe lo bb f a.pred W3 (HB.out.ext EW3.out))
   have HRO:Hid ((Zan f a.pred).length≤65536∧∃ar,ar≤64∧∀r∈Zan f a.pred,r.length=ar∧ZaP r=true):=by
    unfold Zan
    cases hf:f a.pred with
    |none=>exact⟨by simp,0,by omega,by simp⟩
    |some x=>exact⟨(HB.out.r.rel _ x hf).2.2.2.few,_,(HB.out.r.rel _ x hf).2.2.2.wide,(HB.out.r.rel _ x hf).2.2.2.row⟩
   obtain⟨rs,hrs⟩:∃rs,Zan f a.pred=rs:=⟨_,rfl⟩
   rw[hrs] at EB HRO
   have HRS:=zh hrs
   have d30:=D3.out.1
   obtain⟨u39,hu39⟩:∃u39:Value,u39=.tuple #[.pointer (some ⟨pr,0,none⟩),.int .i64 0]:=⟨_,rfl⟩
   clear hW3 B3 EX2 v2 t2 i2 s2 e2 ge5 c3 c32 e0 e1 z1 y1 y2 NR d6 ST EWR EX HSZ P3S hpr hp7r hrs L0 C3 C5 C6 c5 EW SZ P7 hu39
   go_step3
   go_wp2_with (go_at_call 61;(with_reducible refine EB.out.mono ?_);rintro e w4 ⟨bs,a4,c4,vs,rfl,hb1,hb2,hb3,hb4,hb5,hb6⟩)
   have z4:W3.heap.size≤w4.heap.size:=hb6.size
   have HEV:Hid (Ext w w4):=Zaa EW3.out hb6
   have hprl:pr<w4.heap.size:=Nat.lt_of_lt_of_le T3.out.1.lt z4
   have hps:=PS.out
   have V4:Hid (Zay w4 w4.heap.size pr m []∧Ty w4 pr 100):=⟨((V3.out.1.ext hb6).raise (by
    have h1:=T3.out.2
    obtain⟨_,_,_,q,_⟩:=V3.out.1.row
    rw[Za6 (Zac hb6 q),←Za6 q,h1]) hprl),T3.out.1.ext hb6⟩
   have F4:Hid (w4.cell? ⟨p3,1,none⟩=some (.slice aa na ca)∧w4.cell? ⟨p5,0,none⟩=some (.slice an k cn)∧w4.cell? ⟨p7,0,none⟩=some (.slice av m cv)∧w4.cell? ⟨p7,1,none⟩=some (.pointer (some ⟨pr,0,none⟩))):=⟨Zac hb6 D3.out.2,Zac hb6 D5.out,Zac hb6 D7.out.1,Zac hb6 D7.out.2⟩
   have F6:Hid ((w4.cell? ⟨p6,0,none⟩=some (.slice none 0 0)∧w4.frozen? ⟨p6,0,none⟩=false)∧w4.cell? ⟨p6,1,none⟩=some (.pointer none)∧w4.frozen? ⟨p6,1,none⟩=false):=by
    have hl:p6<W3.heap.size:=World.block_lt_of_cell? W3 ⟨p6,0,none⟩ D6.out.1.1
    exact⟨⟨Zac hb6 D6.out.1.1,(hb6.frozen (p:=⟨p6,0,none⟩) hl).trans D6.out.1.2⟩,Zac hb6 D6.out.2.1,(hb6.frozen (p:=⟨p6,1,none⟩) hl).trans D6.out.2.2⟩
   have OW4:=zh (Zar OW3.out hb6)
   have TY64:=zh (TY63.out.ext hb6)
   have h1v:∀v∈vs,∃a m c,v=Value.slice a m c:=fun v hv=>by
    obtain⟨k,hk⟩:=List.mem_iff_getElem?.1 hv
    have hkl:=(zgs hk).1
    obtain⟨r,hrr⟩:∃r,rs[k]? =some r:=⟨_,zge (by have:=hb5.1;omega)⟩
    obtain⟨a,c,e,_⟩:=Zag (hb5.2 k r v hrr hk)
    exact⟨a,_,c,e⟩
   have VS:=zh hb5
   have fin:∀(D:Nat) (W:World),w4.heap.size≤D→ZmM w w4.heap.size p6 pr m ((ZaC names a.terms).map ZhV) av cv (Zbv names a.terms rs) W→W.heap[D]? =some (.deferred (some []))→∀tmps:Array Value,tmps.getD 6 undef=.pointer (some ⟨p6,0,none⟩)→∃v,(results Tryz.f102 tmps).run Tryz.prog (W.putObj D (.deferred none))=.ok v (W.putObj D (.deferred none))∧Zqd names a.terms (Zan f a.pred) w (.returned v) (W.putObj D (.deferred none)):=fun D W hD h hK tmps h6=>by
    have h2:=h.turned (grownBy_putObj' W D (.deferred none)) (B:=w4.heap.size) (fun r e=>by cases e;exact⟨hD,_,hK,rfl⟩) hprl (by omega) HEV.out.size
    refine⟨_,Zqe tmps p6 _ _ _ h6 h2.c0 h2.c1,av,cv,pr,by rw[HM.out],?_,?_,by omega,h2.ext⟩
    ·rw[HM.out]
     exact h2.own
    ·rw[HM.out,HRS.out]
     obtain⟨a',c',us,r1,r2,r3⟩:=h2.rows.row
     exact⟨Nat.lt_succ_self _,h2.rows.c0,h2.rows.c2,h2.rows.free,a',c',us,r1,Zao r2 hprl,fun i r v hr hv=>Zao (r3 i r v hr hv) hprl⟩
   have LEQ:∀W acc,Zay W w4.heap.size pr m acc→Ty W pr 100→Zah (fun b=>b=pr∨w4.heap.size≤b) w4 W→KeepsFrom w4.heap.size W ((W.setCell ⟨p6,0,none⟩ (.slice av m cv)).setCell ⟨p6,1,none⟩ (.pointer (some ⟨pr,0,none⟩)))∧ZmM w w4.heap.size p6 pr m ((ZaC names a.terms).map ZhV) av cv acc ((W.setCell ⟨p6,0,none⟩ (.slice av m cv)).setCell ⟨p6,1,none⟩ (.pointer (some ⟨pr,0,none⟩))):=fun W acc h1 h2 h3=>by
    have np:∀{b},b<pr→¬(b=pr∨w4.heap.size≤b):=fun hb q=>by omega
    have g2:=h3.cell (np (by omega)) F6.out.1.1
    have g3:=h3.cell (np (by omega)) F6.out.2.1
    have BS:Zah (fun b=>b=p6) W ((W.setCell ⟨p6,0,none⟩ (.slice av m cv)).setCell ⟨p6,1,none⟩ (.pointer (some ⟨pr,0,none⟩))):=((Zah.refl (fun b=>b=p6) W).set (.inl rfl) _ _).set (.inl rfl) _ _
    have ty6:=TY64.out.but h3 (np (by omega))
    have ow:=h3.own OW4.out (fun b e q=>by
     rcases q with rfl|q
     ·exact(ZaN OW4.out e).ne V4.out.2 (by decide) rfl
     ·have:=(OW4.out.lt b e).2;omega)
    have g2':=World.cell?_setCell_same W ⟨p6,0,none⟩ (.slice av m cv) g2
    refine⟨ZjA BS (fun b hb=>by subst hb;exact⟨_,ty6⟩),?_,?_,(h1.but BS (by omega) (fun g hg e=>by subst e;exact(h1.item_ty hg).1.ne ty6 (by decide) rfl) (fun b hb ht=>by subst hb;exact ht.ne ty6 (by decide) rfl)).1,BS.own ow (fun b e q=>by subst q;exact(ZaN ow e).ne ty6 (by decide) rfl),Zaw (Zaw HEV.out h3 (fun b hb q=>by omega)) BS (fun b hb q=>by omega)⟩
    ·rw[World.cell?_setCell_other _ _ _ _ (by simp)]
     exact g2'
    ·exact World.cell?_setCell_same _ _ _ ((World.cell?_setCell_other _ _ _ _ (by simp)).trans g3)
   refine(wpIn_wide (n:=5)).1 ?_
   refine' wpIn_rangeFunc_ownG (F:=Fence.wide) rfl (by omega) (gf:=125) (lb:=#[.pointer (some ⟨bs,0,none⟩)]) rfl trivial (enters_of Tryz.func125 (by kernel_rfl) rfl)
    (ZcK Fence.wide 4 trivial rfl (by omega) bs _ rs.length c4 a4 vs w4 hb4 h1v (by have:=HRO.out.1;omega) (fun b=>b=pr∨w4.heap.size≤b) (fun b e q=>by
     rcases q with rfl|q
     ·exact(ZaN hb4 e).ne V4.out.2 (by decide) rfl
     ·have:=(hb4.lt b e).2;omega) hb2 hb3) (fun h k=>h.trans k) (fun W l o o' hl _ _ _=>Zah.putObj W o' (.inr hl)) zbr (fun _=>rfl)
    (fun pre W=>Zay W w4.heap.size pr m (Zbv names a.terms (ZaM rs pre))∧Ty W pr 100∧Zah (fun b=>b=pr∨w4.heap.size≤b) w4 W)
    (fun c _ W=>c=.ret∧ZmM w w4.heap.size p6 pr m ((ZaC names a.terms).map ZhV) av cv (Zbv names a.terms rs) W)
    ?own ?ownx ⟨V4.out.1,V4.out.2,Zah.refl _ _⟩ _ ?assign ?body ?done ?stop
   case assign=>
    intro l x W K hK
    gi_wp2
    exact hK
   case own=>
    rintro pre W W' row ⟨h1,h2,h3⟩ hg hr
    exact⟨h1.turned hg hr hprl,h2.turned hg (fun r e=>(hr r e).2),h3.grown hg (fun b e=>.inl (.inr (hr b e).1))⟩
   case ownx=>
    rintro c pre W W' row ⟨h1,h2⟩ hg hr
    exact⟨h1,h2.turned hg hr hprl (by omega) HEV.out.size⟩
   case done=>
    rintro D ys W hD rfl ⟨h1,h2,h3⟩ hK
    rw[ZdD rs (Nat.le_refl _),List.take_length] at h1
    have np:∀{b},b<pr→¬(b=pr∨w4.heap.size≤b):=fun hb q=>by omega
    have g0:=h3.cell (np (by omega)) F4.out.2.2.1
    have g1:=h3.cell (np (by omega)) F4.out.2.2.2
    have g2:=h3.cell (np (by omega)) F6.out.1.1
    have g3:=h3.cell (np (by omega)) F6.out.2.1
    have g4:=ZaE h3 (np (by omega)) (by omega) F6.out.1.2
    have g5:=ZaE h3 (np (by omega)) (by omega) F6.out.2.2
    have QK:W.heap[D]? =some (.deferred (some [])):=hK
    go_wp2
    rw[Exit.noGoto_ret]
    have hK2:=(KeepsOthers.setCell _ ⟨p6,1,none⟩ (.pointer (some ⟨pr,0,none⟩))).same D _ ((KeepsOthers.setCell W ⟨p6,0,none⟩ (.slice av m cv)).same D _ QK rfl) rfl
    obtain⟨_,LE⟩:=LEQ W _ h1 h2 h3
    refine⟨by simp,.inl ⟨_,_,rfl,run_takeDeferred hK2,?_⟩⟩
    exact fin D _ hD LE hK2 _ rfl
   case stop=>
    rintro D c pre W hD hpre ⟨rfl,h⟩ hK
    gi_wp2
    rw[Exit.noGoto_ret]
    refine⟨by simp,.inl ⟨_,_,rfl,run_takeDeferred hK,?_⟩⟩
    exact fin D _ hD h hK _ rfl
   case body=>
    rintro l pre x W ⟨h1,h2,h3⟩ hlt
    have np:∀{b},b<pr→¬(b=pr∨w4.heap.size≤b):=fun hb q=>by omega
    obtain⟨r,hr1⟩:∃r,rs[x.1]? =some r:=⟨_,zge x.2⟩
    obtain⟨v,hv1⟩:∃v,vs[x.1]? =some v:=⟨_,zge (by rw[VS.out.1];exact x.2)⟩
    obtain⟨hrl,har,ar,har64,hall⟩:∃_:r∈rs,∃_:True,∃ar,ar≤64∧∀r∈rs,r.length=ar∧ZaP r=true:=⟨zmg hr1,trivial,HRO.out.2⟩
    have ho4:=VS.out.2 _ r v hr1 hv1
    have ho1:=h3.own ho4 (fun b e q=>by
     rcases q with rfl|q
     ·exact(ZaN ho4 e).ne V4.out.2 (by decide) rfl
     ·have:=(ho4.lt b e).2;omega)
    obtain⟨a7,c7,rfl,_⟩:=Zag ho1
    have hv2:vs[x.1]?.getD undef=.slice a7 r.length c7:=by rw[hv1];rfl
    rw[hv2]
    have EWW:Hid (Ext w W):=Zaw HEV.out h3 (fun b hb q=>by omega)
    have RST:Hid (Zai W a7 r.length r):=ZaL ho1 (Za4 ho1).1
    have g31:=h3.cell (np (by omega)) F4.out.1
    have g50:=h3.cell (np (by omega)) F4.out.2.1
    have g70:=h3.cell (np (by omega)) F4.out.2.2.1
    have g71:=h3.cell (np (by omega)) F4.out.2.2.2
    have hrla:r.length=ar:=(hall r hrl).1
    by_cases hne:r.length=na
    ·have hne1:((r.length:Int) != (na:Int))=false:=by simp;omega
     have HNA:Hid (a.terms.length=na):=HT.out.2.1
     have UNF:Hid (ZhE a.terms r=false→Zbv names a.terms (ZaM rs (pre++[x]))=Zbv names a.terms (ZaM rs pre)):=fun hf=>by
      rw[Zcl rs pre x hr1]
      unfold Zbv
      rw[List.foldl_append]
      show ZbC names a.terms _ r=_
      unfold ZbC
      rw[if_neg (by rw[hf];simp)]
     have EXF:Hid (∀w',Ext W w'→∀{j},(h:Zf3 a.terms r j=false)→KeepsFrom w4.heap.size W w'∧Zah (fun b=>b=pr∨w4.heap.size≤b) W w'∧Zay w' w4.heap.size pr m (Zbv names a.terms (ZaM rs (pre++[x])))∧Ty w' pr 100∧Zah (fun b=>b=pr∨w4.heap.size≤b) w4 w'):=fun w' e j h=>by
      have hf:ZhE a.terms r=false:=by
       unfold ZhE
       rw[List.all_eq_false]
       refine⟨j,List.mem_range.2 ?_,by rw[h];simp⟩
       by_cases hj:j<a.terms.length
       ·exact hj
       ·unfold Zf3 at h
        rw[List.getElem?_eq_none (by omega)] at h
        cases h
      rw[UNF.out hf]
      exact⟨(KeepsOthers.ext e).from _,(Zah.refl _ _).ext e,h1.ext e,h2.ext e,h3.ext e⟩
     have HRNA:=zh hne
     gi_wp2
     clear hne hrla hne1 hall
     gi_loopw [58] (fun u wj=>∃j:Nat,j≤na∧u=.int .i64 j∧Ext W wj∧(List.range j).all (Zf3 a.terms r)=true) (fun u _=>na-(intOf u).toNat)
     case atStart=>exact⟨0,by omega,rfl,Below.refl _ _,by simp⟩
     case round=>
      obtain⟨j,hj,rfl,hEj,hfj⟩:=hrel
      have HEJ:=zh hEj
      have HFJ:=zh hfj
      clear hfj hEj
      by_cases hlj:j<na
      ·have hji:(j:Int)<(na:Int):=by omega
       obtain⟨t,bt,ot,hx,haa,hc1,hc2,hc3⟩:=(HT.out.keep (Zaa EWW.out HEJ.out)).2.at hlj
       subst haa
       have HX:=zh hx
       obtain⟨y,b1,o1,hy,ha7,hy1⟩:=(RST.out.keep HEJ.out).2.at (i:=j) (by have:=HRNA.out;omega)
       subst ha7
       rw[Nat.mul_one] at hy1
       have g1:wr.cell? ⟨b1,o1+j,none⟩=some (.string y):=hy1
       have HY:Hid (gt r j=y):=by show _=_;unfold gt;rw[hy];rfl
       clear hx hy hy1
       have k31:=Zac HEJ.out g31
       gi_wp2
       obtain⟨p12,hp12⟩:∃p12,wr.heap.size=p12:=⟨_,rfl⟩
       have EW1:Ext wr (wr.alloc (.cells #[.int .i64 t.kind,.string t.text] 64)):=Zab zbr _
       have c120:(wr.alloc (.cells #[.int .i64 t.kind,.string t.text] 64)).cell? ⟨p12,0,none⟩=some (.int .i64 t.kind):=by rw[←hp12];go_simp
       have c121:(wr.alloc (.cells #[.int .i64 t.kind,.string t.text] 64)).cell? ⟨p12,1,none⟩=some (.string t.text):=by rw[←hp12];go_simp
       have d31:=Zac EW1 k31
       have d1:=Zac EW1 g1
       generalize wr.alloc (.cells #[.int .i64 t.kind,.string t.text] 64)=W1 at EW1 c120 c121 d31 d1 ⊢
       rw[hp12]
       clear hp12 k31 g1
       have mixed:Tryz.prog.follows .mixedOrders=true:=by kernel_rfl
       have hjr:(j:Int)<(r.length:Int):=by have:=HRNA.out;omega
       obtain⟨x3,e3⟩:∃b,(t.kind==3)=b:=⟨_,rfl⟩
       obtain⟨x1,e1⟩:∃b,(t.kind==1)=b:=⟨_,rfl⟩
       obtain⟨c1,ec1⟩:∃b,(y.toList==t.text.toList)=b:=⟨_,rfl⟩
       have EC1:Hid (decide (y=t.text)=c1):=by show _=_;rw[←ec1,Zbr]
       have FIT0:Hid (∀q:Bool,(x1=true→decide (gt r (Zg5 a.terms t).toNat=gt r j)=q)→Zf3 a.terms r j= !((x3&&!c1)||(x1&&!q))):=by
        intro q hq
        unfold Zf3
        rw[HX.out]
        have h3:decide (t.kind=3)=x3:=by rw[←e3];rfl
        have h1:decide (t.kind=1)=x1:=by rw[←e1];rfl
        simp only[h3,h1,HY.out,EC1.out]
        cases x1
        ·simp
        ·have:=hq rfl
         rw[HY.out] at this
         rw[this]
       cases x1 with
       |false=>
        have FIT:Zf3 a.terms r j= !(x3&&!c1):=by rw[FIT0.out true (by simp)];simp
        cases x3 <;> cases c1
        all_goals
         refine Zg3 (fun w'=>Ext W1 w') mixed (by kernel_rfl) (by rintro⟨a,w,h⟩;exact h) (Zaf zbr) (fun hS0=>?_)
         refine tkA (i:=0) (oi:=ZtR) (v:=?_) rfl (Or.inl ⟨by rfl,?_⟩) ?_
         rotate_left
         focus (intro wS hS;go_simp;try with_reducible rfl)
         try simp only[Act.put,Zat,Zau,Zav]
         refine tkA (i:=1) (oi:=ZtS) (v:=?_) rfl (Or.inl ⟨by rfl,?_⟩) ?_
         rotate_left
         focus (intro wS hS;have e0:=Zac hS c120;have e1:=Zac hS c121;have e2:=Zac hS d31;have e3:=Zac hS d1;go_simp;try with_reducible rfl)
         try simp only[Act.put,Zat,Zau,Zav]
         refine tkA (i:=2) (oi:=ZtT) (v:=?_) rfl (Or.inl ⟨by rfl,?_⟩) ?_
         rotate_left
         focus (intro wS hS;go_simp;try with_reducible rfl)
         try simp only[Act.put,Zat,Zau,Zav]
         refine tkA (i:=3) (oi:=ZtU) (v:=?_) rfl (Or.inl ⟨by rfl,?_⟩) ?_
         rotate_left
         focus (intro wS hS;go_simp;try with_reducible rfl)
         try simp only[Act.put,Zat,Zau,Zav]
         first|(refine tkA (i:=4) (oi:=Zsl) (v:=?_) rfl (Or.inl ⟨by rfl,?_⟩) ?_;rotate_left;focus (intro wS hS;go_simp;try with_reducible rfl))|(refine tkA (i:=4) (oi:=Zsl) (v:=undef) rfl (Or.inr ⟨by rfl,rfl⟩) ?_)
         try simp only[Act.put,Zat,Zau,Zav]
         first|(refine tkA (i:=5) (oi:=Zsm) (v:=?_) rfl (Or.inl ⟨by rfl,?_⟩) ?_;rotate_left;focus (intro wS hS;go_simp;try with_reducible rfl))|(refine tkA (i:=5) (oi:=Zsm) (v:=undef) rfl (Or.inr ⟨by rfl,rfl⟩) ?_)
         try simp only[Act.put,Zat,Zau,Zav]
         first|(refine tkA (i:=6) (oi:=Zsn) (v:=?_) rfl (Or.inl ⟨by rfl,?_⟩) ?_;rotate_left;focus (intro wS hS;go_simp;try with_reducible rfl))|(refine tkA (i:=6) (oi:=Zsn) (v:=undef) rfl (Or.inr ⟨by rfl,rfl⟩) ?_)
         try simp only[Act.put,Zat,Zau,Zav]
         first|(refine tkA (i:=7) (oi:=Zso) (v:=?_) rfl (Or.inl ⟨by rfl,?_⟩) ?_;rotate_left;focus (intro wS hS;have e0:=Zac hS c120;have e1:=Zac hS c121;have e2:=Zac hS d31;have e3:=Zac hS d1;go_simp;try with_reducible rfl))|(refine tkA (i:=7) (oi:=Zso) (v:=undef) rfl (Or.inr ⟨by rfl,rfl⟩) ?_)
         try simp only[Act.put,Zat,Zau,Zav]
         first|(refine tkA (i:=8) (oi:=Zsp) (v:=?_) rfl (Or.inl ⟨by rfl,?_⟩) ?_;rotate_left;focus (intro wS hS;go_simp;try with_reducible rfl))|(refine tkA (i:=8) (oi:=Zsp) (v:=undef) rfl (Or.inr ⟨by rfl,rfl⟩) ?_)
         try simp only[Act.put,Zat,Zau,Zav]
         first|(refine tkA (i:=9) (oi:=Zsq) (v:=?_) rfl (Or.inl ⟨by rfl,?_⟩) ?_;rotate_left;focus (intro wS hS;have e0:=Zac hS c120;have e1:=Zac hS c121;have e2:=Zac hS d31;have e3:=Zac hS d1;go_simp;try with_reducible rfl))|(refine tkA (i:=9) (oi:=Zsq) (v:=undef) rfl (Or.inr ⟨by rfl,rfl⟩) ?_)
         try simp only[Act.put,Zat,Zau,Zav]
         first|(refine tkA (i:=10) (oi:=Zoh) (v:=?_) rfl (Or.inl ⟨by rfl,?_⟩) ?_;rotate_left;focus (intro wS hS;go_simp;try with_reducible rfl))|(refine tkA (i:=10) (oi:=Zoh) (v:=undef) rfl (Or.inr ⟨by rfl,rfl⟩) ?_)
         try simp only[Act.put,Zat,Zau,Zav]
         refine tkA (i:=11) (oi:=Zrn) (v:=?_) rfl (Or.inl ⟨by rfl,?_⟩) ?_
         rotate_left
         focus (intro wS hS;go_simp;try with_reducible rfl)
         try simp only[Act.put,Zat,Zau,Zav]
         refine tkA (i:=12) (oi:=Zro) (v:=?_) rfl (Or.inl ⟨by rfl,?_⟩) ?_
         rotate_left
         focus (intro wS hS;go_simp;try with_reducible rfl)
         try simp only[Act.put,Zat,Zau,Zav]
         first|(refine tkA (i:=13) (oi:=Zoi) (v:=?_) rfl (Or.inl ⟨by rfl,?_⟩) ?_;rotate_left;focus (intro wS hS;go_simp;try with_reducible rfl))|(refine tkA (i:=13) (oi:=Zoi) (v:=undef) rfl (Or.inr ⟨by rfl,rfl⟩) ?_)
         try simp only[Act.put,Zat,Zau,Zav]
         first|(refine tkA (i:=14) (oi:=Zoj) (v:=?_) rfl (Or.inl ⟨by rfl,?_⟩) ?_;rotate_left;focus (intro wS hS;have e0:=Zac hS c120;have e1:=Zac hS c121;have e2:=Zac hS d31;have e3:=Zac hS d1;go_simp;try with_reducible rfl))|(refine tkA (i:=14) (oi:=Zoj) (v:=undef) rfl (Or.inr ⟨by rfl,rfl⟩) ?_)
         try simp only[Act.put,Zat,Zau,Zav]
         first|(refine tkA (i:=15) (oi:=Zok) (v:=?_) rfl (Or.inl ⟨by rfl,?_⟩) ?_;rotate_left;focus (intro wS hS;go_simp;try with_reducible rfl))|(refine tkA (i:=15) (oi:=Zok) (v:=undef) rfl (Or.inr ⟨by rfl,rfl⟩) ?_)
         try simp only[Act.put,Zat,Zau,Zav]
         first|(refine tkA (i:=16) (oi:=Zol) (v:=?_) rfl (Or.inl ⟨by rfl,?_⟩) ?_;rotate_left;focus (intro wS hS;go_simp;try with_reducible rfl))|(refine tkA (i:=16) (oi:=Zol) (v:=undef) rfl (Or.inr ⟨by rfl,rfl⟩) ?_)
         try simp only[Act.put,Zat,Zau,Zav]
         refine tkA (i:=17) (oi:=Zrp) (v:=undef) rfl (Or.inr ⟨by rfl,rfl⟩) ?_
         try simp only[Act.put,Zat,Zau,Zav]
         refine tkA (i:=18) (oi:=Zrq) (v:=undef) rfl (Or.inr ⟨by rfl,rfl⟩) ?_
         try simp only[Act.put,Zat,Zau,Zav]
         refine tkA (i:=19) (oi:=Zrr) (v:=undef) rfl (Or.inr ⟨by rfl,rfl⟩) ?_
         try simp only[Act.put,Zat,Zau,Zav]
         refine tkA (i:=20) (oi:=Zrs) (v:=undef) rfl (Or.inr ⟨by rfl,rfl⟩) ?_
         try simp only[Act.put,Zat,Zau,Zav]
         refine tkA (i:=21) (oi:=ZtV) (v:=undef) rfl (Or.inr ⟨by rfl,rfl⟩) ?_
         try simp only[Act.put,Zat,Zau,Zav]
         refine tkA (i:=22) (oi:=Zrt) (v:=undef) rfl (Or.inr ⟨by rfl,rfl⟩) ?_
         try simp only[Act.put,Zat,Zau,Zav]
         refine tkA (i:=23) (oi:=Zru) (v:=undef) rfl (Or.inr ⟨by rfl,rfl⟩) ?_
         try simp only[Act.put,Zat,Zau,Zav]
         refine tkA (i:=24) (oi:=Zrv) (v:=undef) rfl (Or.inr ⟨by rfl,rfl⟩) ?_
         try simp only[Act.put,Zat,Zau,Zav]
         refine tkA (i:=25) (oi:=Zrw) (v:=undef) rfl (Or.inr ⟨by rfl,rfl⟩) ?_
         try simp only[Act.put,Zat,Zau,Zav]
         refine tkA (i:=26) (oi:=Zrx) (v:=undef) rfl (Or.inr ⟨by rfl,rfl⟩) ?_
         try simp only[Act.put,Zat,Zau,Zav]
         refine tkA (i:=27) (oi:=Zry) (v:=undef) rfl (Or.inr ⟨by rfl,rfl⟩) ?_
         try simp only[Act.put,Zat,Zau,Zav]
         refine tkA (i:=28) (oi:=Zrz) (v:=undef) rfl (Or.inr ⟨by rfl,rfl⟩) ?_
         try simp only[Act.put,Zat,Zau,Zav]
         first|(refine tkA (i:=29) (oi:=Zom) (v:=?_) rfl (Or.inl ⟨by rfl,?_⟩) ?_;rotate_left;focus (intro wS hS;go_simp;try with_reducible rfl))|(refine tkA (i:=29) (oi:=Zom) (v:=undef) rfl (Or.inr ⟨by rfl,rfl⟩) ?_)
         try simp only[Act.put,Zat,Zau,Zav]
         refine tkA (i:=30) (oi:=ZrA) (v:=?_) rfl (Or.inl ⟨by rfl,?_⟩) ?_
         rotate_left
         focus (intro wS hS;go_simp;try with_reducible rfl)
         try simp only[Act.put,Zat,Zau,Zav]
         refine wpAnyH_done (by kernel_rfl) ?_ _
         first
          |(have FT:Zf3 a.terms r j=true:=by simpa using FIT
            have HX1:=zh (Zaa HEJ.out (Zaa EW1 (Zaf zbr)))
            gi_wp2
            go_roundw
            case rel=>exact⟨j+1,by omega,by go_num,HX1.out,by rw[List.range_succ,List.all_append,HFJ.out];simp[FT]⟩
            case measure=>simp[intOf];omega)
          |(have FF:Zf3 a.terms r j=false:=by simpa using FIT
            gi_wp2
            exact EXF.out _ (Zaa HEJ.out (Zaa EW1 (Zaf zbr))) FF)
       |true=>
        have hx3:x3=false:=by
         have:t.kind=1:=by simpa using e1
         rw[←e3,this]
         rfl
        subst hx3
        obtain⟨kx,hkx,hkt⟩:=ZgE (zmg HX.out)
        have hkl:kx<na:=by have:=(zgs hkt).1;rw[HNA.out] at this;exact this
        obtain⟨y2,b2,o2,hy2,hb2,hy3⟩:=(RST.out.keep HEJ.out).2.at (i:=kx) (by have:=HRNA.out;omega)
        cases hb2
        rw[Nat.mul_one] at hy3
        have d2:=Zac EW1 (show wr.cell? ⟨b1,o1+kx,none⟩=some (.string y2) from hy3)
        have hkr:(kx:Int)<(r.length:Int):=by have:=HRNA.out;omega
        have HY2:Hid (gt r (Zg5 a.terms t).toNat=y2):=by
         show _=_
         rw[hkx]
         unfold gt
         rw[show ((kx:Nat):Int).toNat=kx by omega,hy2]
         rfl
        have IXT:Hid (Calls Tryz.prog 130 #[.slice (some ⟨bt,ot,none⟩) na ca,.agg #[.int .i64 t.kind,.string t.text]] W1.drew fun e w'=>e=.returned (.int .i64 (kx:Nat))∧Ext W1.drew w'):=by
         have:=ZiI a.terms t (some ⟨bt,ot,none⟩) na ca W1.drew (HT.out.keep (Zaa EWW.out (Zaa HEJ.out (Zaa EW1 (Zaf zbr)))))
         rw[hkx] at this
         exact this
        obtain⟨c2,ec2⟩:∃b,(y2.toList==y.toList)=b:=⟨_,rfl⟩
        have HQ2:Hid (decide (gt r (Zg5 a.terms t).toNat=gt r j)=c2):=by show _=_;rw[HY2.out,HY.out,←ec2,Zbr]
        clear hkt hy2 hy3 hkx
        have FIT:Zf3 a.terms r j=c2:=by rw[FIT0.out c2 (fun _=>HQ2.out)];simp
        cases c1
        all_goals
         refine Zg3 (fun w'=>Ext W1 w') mixed (by kernel_rfl) (by rintro⟨a,w,h⟩;exact h) (Zaf zbr) (fun hS0=>?_)
         refine tkA (i:=0) (oi:=ZtR) (v:=?_) rfl (Or.inl ⟨by rfl,?_⟩) ?_
         rotate_left
         focus (intro wS hS;go_simp;try with_reducible rfl)
         try simp only[Act.put,Zat,Zau,Zav]
         refine tkA (i:=1) (oi:=ZtS) (v:=?_) rfl (Or.inl ⟨by rfl,?_⟩) ?_
         rotate_left
         focus (intro wS hS;have e0:=Zac hS c120;have e1:=Zac hS c121;have e2:=Zac hS d31;have e3:=Zac hS d1;go_simp;try with_reducible rfl)
         try simp only[Act.put,Zat,Zau,Zav]
         refine tkA (i:=2) (oi:=ZtT) (v:=?_) rfl (Or.inl ⟨by rfl,?_⟩) ?_
         rotate_left
         focus (intro wS hS;go_simp;try with_reducible rfl)
         try simp only[Act.put,Zat,Zau,Zav]
         refine tkA (i:=3) (oi:=ZtU) (v:=?_) rfl (Or.inl ⟨by rfl,?_⟩) ?_
         rotate_left
         focus (intro wS hS;go_simp;try with_reducible rfl)
         try simp only[Act.put,Zat,Zau,Zav]
         refine tkA (i:=4) (oi:=Zsl) (v:=undef) rfl (Or.inr ⟨by rfl,rfl⟩) ?_
         try simp only[Act.put,Zat,Zau,Zav]
         refine tkA (i:=5) (oi:=Zsm) (v:=undef) rfl (Or.inr ⟨by rfl,rfl⟩) ?_
         try simp only[Act.put,Zat,Zau,Zav]
         refine tkA (i:=6) (oi:=Zsn) (v:=undef) rfl (Or.inr ⟨by rfl,rfl⟩) ?_
         try simp only[Act.put,Zat,Zau,Zav]
         refine tkA (i:=7) (oi:=Zso) (v:=undef) rfl (Or.inr ⟨by rfl,rfl⟩) ?_
         try simp only[Act.put,Zat,Zau,Zav]
         refine tkA (i:=8) (oi:=Zsp) (v:=undef) rfl (Or.inr ⟨by rfl,rfl⟩) ?_
         try simp only[Act.put,Zat,Zau,Zav]
         refine tkA (i:=9) (oi:=Zsq) (v:=undef) rfl (Or.inr ⟨by rfl,rfl⟩) ?_
         try simp only[Act.put,Zat,Zau,Zav]
         refine tkA (i:=10) (oi:=Zoh) (v:=undef) rfl (Or.inr ⟨by rfl,rfl⟩) ?_
         try simp only[Act.put,Zat,Zau,Zav]
         refine tkA (i:=11) (oi:=Zrn) (v:=?_) rfl (Or.inl ⟨by rfl,?_⟩) ?_
         rotate_left
         focus (intro wS hS;go_simp;try with_reducible rfl)
         try simp only[Act.put,Zat,Zau,Zav]
         refine tkA (i:=12) (oi:=Zro) (v:=?_) rfl (Or.inl ⟨by rfl,?_⟩) ?_
         rotate_left
         focus (intro wS hS;go_simp;try with_reducible rfl)
         try simp only[Act.put,Zat,Zau,Zav]
         refine tkA (i:=13) (oi:=Zoi) (v:=?_) rfl (Or.inl ⟨by rfl,?_⟩) ?_
         rotate_left
         focus (intro wS hS;go_simp;try with_reducible rfl)
         try simp only[Act.put,Zat,Zau,Zav]
         refine tkA (i:=14) (oi:=Zoj) (v:=?_) rfl (Or.inl ⟨by rfl,?_⟩) ?_
         rotate_left
         focus (intro wS hS;have e0:=Zac hS c120;have e1:=Zac hS c121;have e2:=Zac hS d31;have e3:=Zac hS d1;go_simp;try with_reducible rfl)
         try simp only[Act.put,Zat,Zau,Zav]
         refine tkA (i:=15) (oi:=Zok) (v:=?_) rfl (Or.inl ⟨by rfl,?_⟩) ?_
         rotate_left
         focus (intro wS hS;go_simp;try with_reducible rfl)
         try simp only[Act.put,Zat,Zau,Zav]
         refine tkA (i:=16) (oi:=Zol) (v:=?_) rfl (Or.inl ⟨by rfl,?_⟩) ?_
         rotate_left
         focus (intro wS hS;go_simp;try with_reducible rfl)
         try simp only[Act.put,Zat,Zau,Zav]
         refine tkA (i:=17) (oi:=Zrp) (v:=?_) rfl (Or.inl ⟨by rfl,?_⟩) ?_
         rotate_left
         focus (intro wS hS;go_simp;try with_reducible rfl)
         try simp only[Act.put,Zat,Zau,Zav]
         refine tkA (i:=18) (oi:=Zrq) (v:=?_) rfl (Or.inl ⟨by rfl,?_⟩) ?_
         rotate_left
         focus (intro wS hS;go_simp;try with_reducible rfl)
         try simp only[Act.put,Zat,Zau,Zav]
         refine tkA (i:=19) (oi:=Zrr) (v:=?_) rfl (Or.inl ⟨by rfl,?_⟩) ?_
         rotate_left
         focus (intro wS hS;have e0:=Zac hS c120;have e1:=Zac hS c121;have e2:=Zac hS d31;have e3:=Zac hS d1;go_simp;try with_reducible rfl)
         try simp only[Act.put,Zat,Zau,Zav]
         refine tkA (i:=20) (oi:=Zrs) (v:=?_) rfl (Or.inl ⟨by rfl,?_⟩) ?_
         rotate_left
         focus (intro wS hS;have e0:=Zac hS c120;have e1:=Zac hS c121;have e2:=Zac hS d31;have e3:=Zac hS d1;go_simp;try with_reducible rfl)
         try simp only[Act.put,Zat,Zau,Zav]
         refine tkA (i:=24) (oi:=Zrv) (v:=?_) rfl (Or.inl ⟨by rfl,?_⟩) ?_
         rotate_left
         focus (intro wS hS;go_simp;try with_reducible rfl)
         try simp only[Act.put,Zat,Zau,Zav]
         refine tkA (i:=25) (oi:=Zrw) (v:=?_) rfl (Or.inl ⟨by rfl,?_⟩) ?_
         rotate_left
         focus (intro wS hS;go_simp;try with_reducible rfl)
         try simp only[Act.put,Zat,Zau,Zav]
         refine tkA (i:=26) (oi:=Zrx) (v:=?_) rfl (Or.inl ⟨by rfl,?_⟩) ?_
         rotate_left
         focus (intro wS hS;go_simp;try with_reducible rfl)
         try simp only[Act.put,Zat,Zau,Zav]
         refine tkA (i:=27) (oi:=Zry) (v:=?_) rfl (Or.inl ⟨by rfl,?_⟩) ?_
         rotate_left
         focus (intro wS hS;have e0:=Zac hS c120;have e1:=Zac hS c121;have e2:=Zac hS d31;have e3:=Zac hS d1;go_simp;try with_reducible rfl)
         try simp only[Act.put,Zat,Zau,Zav]
         refine wpAnyH_ready (rs:=[21]) (by kernel_rfl) (by simp) ?_
         refine AllReadyH.cons rfl (fun K hK=>?_) AllReadyH.nil
         go_simp
         go_at_call 130;(with_reducible refine IXT.out.mono ?_);rintro e w9 ⟨rfl,e9⟩
         refine hK.out _ _ ?_ (fun hHeld=>?_)
         ·exact Zaa hS0 e9
         clear hK K
         try simp only[Act.put,Zat,Zau,Zav]
         refine tkA (i:=22) (oi:=Zrt) (v:=?_) rfl (Or.inl ⟨by rfl,?_⟩) ?_
         rotate_left
         focus (intro wS hS;go_simp;try with_reducible rfl)
         try simp only[Act.put,Zat,Zau,Zav]
         refine tkA (i:=23) (oi:=Zru) (v:=?_) rfl (Or.inl ⟨by rfl,?_⟩) ?_
         rotate_left
         focus (intro wS hS;have e0:=Zac hS c120;have e1:=Zac hS c121;have e2:=Zac hS d31;have e3:=Zac hS d1;have e4:=Zac hS d2;go_simp;try with_reducible rfl)
         try simp only[Act.put,Zat,Zau,Zav]
         refine tkA (i:=28) (oi:=Zrz) (v:=?_) rfl (Or.inl ⟨by rfl,?_⟩) ?_
         rotate_left
         focus (intro wS hS;go_simp;try with_reducible rfl)
         try simp only[Act.put,Zat,Zau,Zav]
         refine tkA (i:=29) (oi:=Zom) (v:=?_) rfl (Or.inl ⟨by rfl,?_⟩) ?_
         rotate_left
         focus (intro wS hS;go_simp;try with_reducible rfl)
         try simp only[Act.put,Zat,Zau,Zav]
         refine tkA (i:=30) (oi:=ZrA) (v:=?_) rfl (Or.inl ⟨by rfl,?_⟩) ?_
         rotate_left
         focus (intro wS hS;go_simp;try with_reducible rfl)
         try simp only[Act.put,Zat,Zau,Zav]
         refine wpAnyH_done (by kernel_rfl) ?_ _
         cases c2 with
         |true=>
          have HX1:=zh (Zaa HEJ.out (Zaa EW1 (Zaa hS0 e9)))
          gi_wp2
          have HALLJ:Hid (∀z,z<j+1→Zf3 a.terms r z=true):=fun z hz=>by
           rcases Nat.lt_or_ge z j with h|h
           ·exact List.all_eq_true.1 HFJ.out z (List.mem_range.2 h)
           ·obtain rfl:z=j:=by omega
            exact FIT
          go_roundw
          case rel=>exact⟨_,_,.int .i64 ((j:Int)+1),⟨j+1,by omega,by go_num,HX1.out,HALLJ.out⟩,rfl,rfl,rfl⟩
          case measure=>simp[intOf];omega
         |false=>
          gi_wp2
          exact EXF.out _ (Zaa HEJ.out (Zaa EW1 (Zaa hS0 e9))) FIT
      ·obtain rfl:j=na:=by omega
       have hgj:¬(j:Int)<(j:Int):=by omega
       have FITS:Hid (ZhE a.terms r=true):=by
        show _=_
        unfold ZhE
        rw[HNA.out]
        exact HFJ.out
       have hm64:m≤64:=by have h64:=H64.out;rw[HM.out] at h64;exact h64
       have k70:=Zac HEJ.out g70
       have k71:=Zac HEJ.out g71
       gi_wp2
       gi_loopw [13,98] (fun v u wj=>∃q:Nat,q≤m∧u=.int .i64 q∧Ext W wj∧wj.ownsRow W.heap.size 9 1 v q ((((ZaC names a.terms).take q).map fun v=>gt r (Zg5 a.terms (Zf2 (gt names v))).toNat).map Value.string)) (fun _ u _=>m-(intOf u).toNat)
       case atStart=>exact⟨0,by omega,rfl,HEJ.out,World.ownsRow_nil _ _ _ _⟩
       case round=>
        obtain⟨q,hq,rfl,hEq,hown⟩:=hrel
        have HEQ:=zh hEq
        obtain⟨ax,cx,hax,_⟩:=Zag hown
        subst hax
        have OWX:=zh hown
        clear hEq hown
        by_cases hlq:q<m
        ·have hqi:(q:Int)<(m:Int):=by omega
         obtain⟨vq,hvq⟩:∃vq,(ZaC names a.terms)[q]? =some vq:=⟨_,zge (by rw[HM.out];exact hlq)⟩
         have hvm:=zmg hvq
         obtain⟨hv1,hv2⟩:=List.mem_filter.1 hvm
         have hvn:vq<names.length:=List.mem_range.1 hv1
         have hvt:Zf2 (gt names vq)∈a.terms:=of_decide_eq_true hv2
         obtain⟨ga,hga⟩:∃g,av=some ⟨g,0,none⟩:=by
          obtain⟨g,c',e,_⟩:=Za0 OW4.out (by omega)
          cases e
          exact⟨g,rfl⟩
         subst hga
         have hcv:wr.cell? ⟨ga,q,none⟩=some (.int .i64 (vq:Nat)):=by
          have h4:=OW4.out.cells (g:=ga) rfl q (ZhV vq) (by rw[List.getElem?_map,hvq];rfl)
          rw[Addr.add_lit,Nat.zero_add] at h4
          refine Zac HEQ.out (h3.cell (fun e=>?_) h4)
          rcases e with e|e
          ·subst e
           exact(ZaN OW4.out rfl).ne V4.out.2 (by decide) rfl
          ·have:=(OW4.out.lt ga rfl).2;omega
         obtain⟨kx,hkx,hkt⟩:=ZgE hvt
         have hkl:kx<r.length:=by have:=(zgs hkt).1;rw[HNA.out] at this;have q:=HRNA.out;omega
         obtain⟨yo,b1,o1,hyo,ha7,hyo1⟩:=RST.out.2.at hkl
         subst ha7
         rw[Nat.mul_one] at hyo1
         have yx:=Zac HEQ.out (show W.cell? ⟨b1,o1+kx,none⟩=some (.string yo) from hyo1)
         have hb1:b1<W.heap.size:=World.block_lt_of_cell? W ⟨b1,o1+kx,none⟩ hyo1
         obtain⟨nm,b2,o2,hnm,han,hnm1⟩:=(HS.out.keep EWW.out).2.at (i:=vq) (by rw[←HNL.out];exact hvn)
         subst han
         rw[Nat.mul_one] at hnm1
         have yn:=Zac HEQ.out (show W.cell? ⟨b2,o2+vq,none⟩=some (.string nm) from hnm1)
         have hb2:b2<W.heap.size:=World.block_lt_of_cell? W ⟨b2,o2+vq,none⟩ hnm1
         have GN:Hid (gt names vq=nm):=by show _=_;unfold gt;rw[hnm];rfl
         have HYO:Hid (gt r (Zg5 a.terms (Zf2 (gt names vq))).toNat=yo):=by
          show _=_
          rw[hkx]
          unfold gt
          rw[show ((kx:Nat):Int).toNat=kx by omega,hyo]
          rfl
         have y31:=Zac HEQ.out g31
         have y50:=Zac HEQ.out g50
         have hW4W:w4.heap.size≤W.heap.size:=h3.size
         have IXT:Hid (Calls Tryz.prog 130 #[.slice aa j ca,.agg #[.int .i64 1,.string nm]] wr.drew fun e w'=>e=.returned (.int .i64 (kx:Nat))∧Ext wr.drew w'):=by
          have:=ZiI a.terms (Zf2 nm) aa j ca wr.drew (HT.out.keep (Zaa EWW.out (Zaa HEQ.out (Zaf zbr))))
          rw[←GN.out,hkx] at this
          rw[←GN.out]
          exact this
         have YB:Hid (b2<W.heap.size∧b1<W.heap.size):=⟨hb2,hb1⟩
         have HWZ:Hid (W.heap.size≤wr.heap.size):=HEQ.out.size
         have hkr:(kx:Int)<(r.length:Int):=by omega
         have hvi:(vq:Int)<(k:Int):=by rw[←HNL.out];omega
         obtain⟨outs,houts⟩:∃outs,((ZaC names a.terms).take q).map (fun v=>gt r (Zg5 a.terms (Zf2 (gt names v))).toNat)=outs:=⟨_,rfl⟩
         have HOUTS:Hid (((ZaC names a.terms).take (q+1)).map (fun v=>gt r (Zg5 a.terms (Zf2 (gt names v))).toNat)=outs++[yo]):=by
          show _=_
          rw[ZaA hvq,List.map_append,houts]
          show outs++[gt r _]=_
          rw[HYO.out]
         rw[houts] at OWX
         have NT:∀{b},b<W.heap.size→¬((Value.slice ax q cx).ownBlock=some b):=fun hb e=>by have:=(OWX.out.lt _ e).1;omega
         have mixed:Tryz.prog.follows .mixedOrders=true:=by kernel_rfl
         clear hkt hyo hyo1 hnm hnm1 hkx houts hvq hvm hv1 hv2 hvt
         gi_wp2
         refine Zg3 (fun w'=>Zah (fun b=>(Value.slice ax q cx).ownBlock=some b) wr w') mixed (by kernel_rfl) (by rintro⟨a,w,h⟩;exact h) ((Zah.refl _ _).ext (Zaf zbr)) (fun hS0=>?_)
         refine tkA (i:=0) (oi:=ZtW) (v:=?_) rfl (Or.inl ⟨by rfl,?_⟩) ?_
         rotate_left
         focus (intro wS hS;go_simp;try with_reducible rfl)
         try simp only[Act.put,Zat,Zau,Zav]
         refine tkA (i:=1) (oi:=ZtX) (v:=?_) rfl (Or.inl ⟨by rfl,?_⟩) ?_
         rotate_left
         focus (intro wS hS;go_simp;try with_reducible rfl)
         try simp only[Act.put,Zat,Zau,Zav]
         refine tkA (i:=2) (oi:=ZtY) (v:=?_) rfl (Or.inl ⟨by rfl,?_⟩) ?_
         rotate_left
         focus (intro wS hS;go_simp;try with_reducible rfl)
         try simp only[Act.put,Zat,Zau,Zav]
         refine tkA (i:=3) (oi:=ZtZ) (v:=?_) rfl (Or.inl ⟨by rfl,?_⟩) ?_
         rotate_left
         focus (intro wS hS;have e0:=hS.cell (NT (by omega)) y31;have e1:=hS.cell (NT (by omega)) y50;have e2:=hS.cell (NT YB.out.1) yn;have e3:=hS.cell (NT YB.out.2) yx;go_simp;try with_reducible rfl)
         try simp only[Act.put,Zat,Zau,Zav]
         refine tkA (i:=4) (oi:=Zt0) (v:=?_) rfl (Or.inl ⟨by rfl,?_⟩) ?_
         rotate_left
         focus (intro wS hS;have e0:=hS.cell (NT (by omega)) y31;have e1:=hS.cell (NT (by omega)) y50;have e2:=hS.cell (NT YB.out.1) yn;have e3:=hS.cell (NT YB.out.2) yx;go_simp;try with_reducible rfl)
         try simp only[Act.put,Zat,Zau,Zav]
         refine tkA (i:=5) (oi:=Zt1) (v:=?_) rfl (Or.inl ⟨by rfl,?_⟩) ?_
         rotate_left
         focus (intro wS hS;go_simp;try with_reducible rfl)
         try simp only[Act.put,Zat,Zau,Zav]
         refine tkA (i:=6) (oi:=Zt2) (v:=?_) rfl (Or.inl ⟨by rfl,?_⟩) ?_
         rotate_left
         focus (intro wS hS;go_simp;try with_reducible rfl)
         try simp only[Act.put,Zat,Zau,Zav]
         refine tkA (i:=7) (oi:=Zt3) (v:=?_) rfl (Or.inl ⟨by rfl,?_⟩) ?_
         rotate_left
         focus (intro wS hS;have e0:=hS.cell (NT (by omega)) y31;have e1:=hS.cell (NT (by omega)) y50;have e2:=hS.cell (NT YB.out.1) yn;have e3:=hS.cell (NT YB.out.2) yx;go_simp;try with_reducible rfl)
         try simp only[Act.put,Zat,Zau,Zav]
         refine tkA (i:=8) (oi:=Zt4) (v:=?_) rfl (Or.inl ⟨by rfl,?_⟩) ?_
         rotate_left
         focus (intro wS hS;go_simp;try with_reducible rfl)
         try simp only[Act.put,Zat,Zau,Zav]
         refine wpAnyH_ready (rs:=[9]) (by kernel_rfl) (by simp) ?_
         refine AllReadyH.cons rfl (fun K hK=>?_) AllReadyH.nil
         go_simp
         go_at_call 130;(with_reducible refine IXT.out.mono ?_);rintro e w9 ⟨rfl,e9⟩
         have S9:Zah (fun b=>(Value.slice ax q cx).ownBlock=some b) wr w9:=hS0.ext e9
         refine hK.out _ _ ?_ (fun hHeld=>?_)
         ·exact S9
         clear hK K
         try simp only[Act.put,Zat,Zau,Zav]
         refine tkA (i:=10) (oi:=Zt5) (v:=?_) rfl (Or.inl ⟨by rfl,?_⟩) ?_
         rotate_left
         focus (intro wS hS;go_simp;try with_reducible rfl)
         try simp only[Act.put,Zat,Zau,Zav]
         refine tkA (i:=11) (oi:=Zt6) (v:=?_) rfl (Or.inl ⟨by rfl,?_⟩) ?_
         rotate_left
         focus (intro wS hS;have e0:=hS.cell (NT (by omega)) y31;have e1:=hS.cell (NT (by omega)) y50;have e2:=hS.cell (NT YB.out.1) yn;have e3:=hS.cell (NT YB.out.2) yx;go_simp;try with_reducible rfl)
         try simp only[Act.put,Zat,Zau,Zav]
         refine wpAnyH_ready (rs:=[12]) (by kernel_rfl) (by simp) ?_
         refine AllReadyH.cons rfl (fun K hK=>?_) AllReadyH.nil
         go_simp
         refine hK.out _ _ ?_ (fun hHeld2=>?_)
         ·exact S9.alloc _
         clear hK K
         try simp only[Act.put,Zat,Zau,Zav]
         refine wpAnyH_ready (rs:=[13]) (by kernel_rfl) (by simp) ?_
         refine AllReadyH.cons rfl (fun K hK=>?_) AllReadyH.nil
         refine Zig w9 yo W.heap.size ax q cx outs (Zar (Zar OWX.out (Zaf zbr)) e9) (by have h64:=H64.out;rw[HM.out] at h64;omega) (Nat.le_trans HWZ.out S9.size) rfl _ _ rfl rfl rfl ?_
         intro g8 c8 w8 own8 gr8
         have S8:Zah (fun b=>(Value.slice ax q cx).ownBlock=some b) wr w8:=(S9.alloc _).grown gr8 (fun b e=>.inl e)
         refine hK.out _ _ ?_ (fun hHeld3=>?_)
         ·exact S8
         clear hK K
         try simp only[Act.put,Zat,Zau,Zav]
         refine tkA (i:=14) (oi:=Zt7) (v:=?_) rfl (Or.inl ⟨by rfl,?_⟩) ?_
         rotate_left
         focus (intro wS hS;go_simp;try with_reducible rfl)
         try simp only[Act.put,Zat,Zau,Zav]
         refine wpAnyH_done (by kernel_rfl) ?_ _
         gi_wp2
         go_roundw
         case rel=>
          refine⟨q+1,by omega,by go_num,Zaw HEQ.out S8 (fun b hb e=>NT hb e),?_⟩
          rw[HOUTS.out]
          exact own8
         case measure=>simp[intOf];omega
        ·obtain rfl:q=m:=by omega
         have hgq:¬(q:Int)<(q:Int):=by omega
         have hfull:((ZaC names a.terms).take q).map (fun v=>gt r (Zg5 a.terms (Zf2 (gt names v))).toNat)=ZkF names a.terms (ZaC names a.terms) r:=by
          rw[List.take_of_length_le (by have:=HM.out;omega)]
          rfl
         rw[hfull] at OWX
         have hol:(ZkF names a.terms (ZaC names a.terms) r).length=q:=by unfold ZkF;rw[List.length_map,HM.out]
         have z71:=Zac HEQ.out g71
         have ROK:=zh (Zg7 names a.terms (ZaM rs pre) H64.out)
         rw[HM.out] at ROK
         have h1q:=h1.ext HEQ.out
         have OST:Zai wr ax q (ZkF names a.terms (ZaC names a.terms) r):=ZaL OWX.out (Za4 OWX.out).1
         have ADR:=zh (Zkt w4.heap.size pr q (Zbv names a.terms (ZaM rs pre)) (ZkF names a.terms (ZaC names a.terms) r) ax q cx wr h1q ROK.out.up OST (ZaF OWX.out).2 (by omega) ROK.out.few (Nat.le_trans h3.size HEQ.out.size))
         have STP:Hid (Zbv names a.terms (ZaM rs (pre++[x]))=ZbY q (Zbv names a.terms (ZaM rs pre)) (ZkF names a.terms (ZaC names a.terms) r)):=by
          show _=_
          rw[Zcl rs pre x hr1]
          unfold Zbv
          rw[List.foldl_append]
          show ZbC names a.terms _ r=_
          unfold ZbC
          rw[if_pos ⟨by rw[HNA.out];exact HRNA.out,FITS.out⟩,HM.out]
         have TQ:=zh (h2.ext HEQ.out)
         have VQ:=zh h1q
         clear hfull hol h1q OST
         gi_wp2_with (first
          |(refine ⟨trivial,?_⟩;gi_at_call 29;refine(CallsIn.inRound l (callsIn_wide.2 ADR.out)).mono ?_;rintro e w9 ⟨rfl,v9,f9⟩))
         have KF:KeepsFrom w4.heap.size wr w9:=ZjA f9.but (fun b hb=>by
          rcases hb with rfl|hb
          ·exact⟨_,TQ.out⟩
          ·exact⟨_,(VQ.out.item_ty hb).1⟩)
         obtain⟨cs,xx,tq⟩:=TQ.out
         obtain⟨cs',tq'⟩:=f9.typ cs _ xx tq
         have BQ:Zah (fun b=>b=pr∨w4.heap.size≤b) wr w9:=f9.but.mono fun b _ hb=>by
          rcases hb with rfl|hb
          ·exact .inl rfl
          ·exact .inr (VQ.out.item_ty hb).2
         exact⟨((KeepsOthers.ext HEQ.out).from _).trans KF,((Zah.refl _ W).ext HEQ.out).trans BQ,by rw[STP.out];exact v9,⟨cs',xx,tq'⟩,h3.trans (((Zah.refl _ W).ext HEQ.out).trans BQ)⟩
    ·have hne2:((r.length:Int) != (na:Int))=true:=by simp;omega
     have e0:=h3.cell (np (by omega)) F6.out.1.1
     have e1:=h3.cell (np (by omega)) F6.out.2.1
     have e2:=ZaE h3 (np (by omega)) (by omega) F6.out.1.2
     have e3:=ZaE h3 (np (by omega)) (by omega) F6.out.2.2
     gi_wp2
     obtain⟨q1,q2⟩:=LEQ W _ h1 h2 h3
     refine⟨q1,rfl,?_⟩
     have hl:∀r∈rs,r.length≠a.terms.length:=fun r' hr'=>by rw[(hall r' hr').1,←hrla,HT.out.2.1];exact hne
     rw[ZjB (fun r' hr'=>hl r' (ZkG hr'))] at q2
     rw[ZjB hl]
     exact q2
