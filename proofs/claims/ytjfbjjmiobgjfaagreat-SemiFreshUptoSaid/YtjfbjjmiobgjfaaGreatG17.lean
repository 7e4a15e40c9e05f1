/- Rows.Has; Rows.Add with what it answers and what it changes. -/
import Derived.Test.YtjfbjjmiobgjfaaGreatG2
import Derived.Test.YtjfbjjmiobgjfaaGreatG4
set_option maxRecDepth 100000
set_option maxHeartbeats 8000000
namespace Go.Proofs.YtjfbjjmiobgjfaaGreat
open ChangeShapes WideShapes ChangeAt RowKit
theorem ZhO (lo pb ar:Nat)(rs:List (List ByteArray))(t:List ByteArray)(ab:Option Addr)(m cb:Nat)(w:World)(h:Zay w lo pb ar rs)(hr:Zbg rs)(hn:rs.length≤1000000)(hb:Zai w ab m t):
  Calls Tryz.prog 70 #[.pointer (some ⟨pb,0,none⟩),.slice ab m cb] w fun e w'=>e=.returned (.bool (ZaX rs t))∧w'=w:=by
 obtain⟨a,c,h1,hit⟩:=h.items (by unfold maxLen;omega)
 have FI:=zh (Znk rs t pb a rs.length c ab m cb w h.c0 h1 hit hb (hr.cut t) (by omega))
 have SE:=zh (Zi6 lo pb ar rs w h)
 have HS:Hid (Calls Tryz.prog 112 #[.pointer (some ⟨pb,0,none⟩),.slice ab m cb] w fun e w'=>e=.returned (.bool (ZaX rs t))∧w'=w):=by
  show Calls _ _ _ _ _
  clear h hr hb h1 hit SE hn
  go_enter Tryz.func112,Tryz.ntmps112
  go_wp2_with (go_at_call 113;(with_reducible refine FI.out.mono ?_);rintro e w1 ⟨rfl,hw1⟩;obtain rfl:=hw1.symm)
  go_returns
  first|trivial|exact⟨rfl,rfl⟩
 clear h hr hb h1 hit FI hn
 go_enter Tryz.func70,Tryz.ntmps70
 go_wp2_with (first
  |(go_at_call 41;(with_reducible refine SE.out.mono ?_);rintro e w1 ⟨rfl,hw1⟩;obtain rfl:=hw1.symm)
  |(go_at_call 112;(with_reducible refine HS.out.mono ?_);rintro e w2 ⟨rfl,hw2⟩;obtain rfl:=hw2.symm))
 go_returns
 first|trivial|exact⟨rfl,rfl⟩
def Za5 (ar:Nat)(rs:List (List ByteArray))(t:List ByteArray):Int:=if t.length≠ar then 30 else if ZaP t=false then 31 else if 65536≤rs.length∧ZaX rs t=false then 4 else 0
def ZbY (ar:Nat)(rs:List (List ByteArray))(t:List ByteArray):List (List ByteArray):=if Za5 ar rs t=0 then ZaO rs t else rs
def Zmu (lo pb ar:Nat)(rs:List (List ByteArray))(t:List ByteArray)(w:World)(e:Ending)(w':World):Prop:=e=.returned (.tuple #[.bool (decide (Za5 ar rs t=0)&&!ZaX rs t),.int .i64 (Za5 ar rs t)])∧Zay w' lo pb ar (ZbY ar rs t)∧Zfu pb w w'
theorem Zfu.after {pb:Nat}{w w1 w':World}(e:Ext w w1)(hp:(w.cell? ⟨pb,1,none⟩).isSome=true)(h:Zfu pb w1 w'):Zfu pb w w':=by
 obtain⟨v,hv⟩:=Option.isSome_iff_exists.1 hp
 have hv1:=Zac e hv
 have hi:ZaJ w1 pb=ZaJ w pb:=by unfold ZaJ;rw[hv,hv1]
 have hpl:pb<w.heap.size:=World.block_lt_of_cell? w ⟨pb,1,none⟩ hv
 refine⟨((Zah.refl _ w).ext e).trans (h.but.mono fun b _ hb=>by rwa [hi] at hb),?_,fun cs t x hx=>h.typ cs t x ((e.block pb hpl).trans hx)⟩
 rcases h.itm with q|⟨g,q,hg⟩
 ·exact .inl (q.trans hi)
 ·exact .inr ⟨g,q,Nat.le_trans e.size hg⟩
theorem Zkt (lo pb ar:Nat)(rs:List (List ByteArray))(t:List ByteArray)(a:Option Addr)(n c:Nat)(w:World)(h:Zay w lo pb ar rs)(hr:Zbg rs)(ht:Zai w a n t)(hnil:a=none→n=0∧c=0)(hn1:n≤8796093022207)(hn:rs.length≤65536)(hlo:lo≤w.heap.size):
  Calls Tryz.prog 29 #[.pointer (some ⟨pb,0,none⟩),.slice a n c] w (Zmu lo pb ar rs t w):=by
 have H:=zh h
 have HT:=zh ht
 have HN:=zh hnil
 have HR:=zh hr
 have HL:=zh hlo
 have c2:=h.c2
 have hlen:t.length=n:=ht.2.1
 have HC:Hid ((w.cell? ⟨pb,1,none⟩).isSome=true):=by
  obtain⟨_,_,_,h1,_⟩:=h.row
  show _=_
  rw[h1]
  rfl
 have HAS:=zh (ZhO lo pb ar rs t a n c w h hr (by omega) ht)
 have HLEN:=zh hlen
 clear h ht hnil hr hlo hlen
 by_cases hne:n=ar
 ·subst hne
  obtain⟨b,hb⟩:∃b,ZaP t=b:=⟨_,rfl⟩
  have HB:=zh hb
  have hnn:((n:Int) != (n:Int))=false:=by simp
  cases b with
  |false=>
   have HQ:Hid (Za5 n rs t=31):=by show _=_;unfold Za5;rw[hb,if_neg (by simp[HLEN.out]),if_pos rfl]
   clear hb HAS
   go_enter Tryz.func29,Tryz.ntmps29
   go_wp2_with (go_at_call 68;(with_reducible refine(ZcG t _ _ _ _ HT.out).mono ?_);rw[HB.out];rintro e w1 ⟨rfl,hw1⟩;obtain rfl:=hw1.symm)
   go_ret2
   exact⟨by rw[HQ.out];rfl,by unfold ZbY;rw[HQ.out];exact H.out,Zfu.refl _ _⟩
  |true=>
   obtain⟨f,hf⟩:∃f,ZaX rs t=f:=⟨_,rfl⟩
   have HF:=zh hf
   rw[hf] at HAS
   have CL:=zh (Ze4 t a n c w HT.out (by omega) HN.out)
   have AD:Hid (∀a' c' w1,w1.ownsRow w.heap.size 9 1 (.slice a' n c') n (t.map Value.string)→Ext w w1→Calls Tryz.prog 71 #[.pointer (some ⟨pb,0,none⟩),.slice a' n c'] w1 (ZiO lo pb n rs t w1)):=by
    intro a' c' w1 ho he
    have:=HLEN.out
    subst this
    exact Zul lo pb _ rs t a' c' w1 (H.out.ext he) HR.out (Zao ho HL.out) hn (Nat.le_trans HL.out he.size)
   by_cases hfull:65536≤rs.length
   ·have hge:decide ((65536:Int)≤(rs.length:Int))=true:=decide_eq_true (by omega)
    cases f with
    |false=>
     have HQ:Hid (Za5 n rs t=4):=by show _=_;unfold Za5;rw[hb,hf,if_neg (by simp[HLEN.out]),if_neg (by simp),if_pos ⟨hfull,rfl⟩]
     clear hb hf hn
     go_enter Tryz.func29,Tryz.ntmps29
     go_wp2_with (first
      |(go_at_call 68;(with_reducible refine(ZcG t _ _ _ _ HT.out).mono ?_);rw[HB.out];rintro e w1 ⟨rfl,hw1⟩;obtain rfl:=hw1.symm)
      |(go_at_call 69;(with_reducible refine(Ze3 lo pb n rs _ H.out).mono ?_);rintro e w1 ⟨rfl,hw1⟩;obtain rfl:=hw1.symm)
      |(go_at_call 70;(with_reducible refine HAS.out.mono ?_);rintro e w1 ⟨rfl,hw1⟩;obtain rfl:=hw1.symm))
     go_ret2
     exact⟨by rw[HQ.out];rfl,by unfold ZbY;rw[HQ.out];exact H.out,Zfu.refl _ _⟩
    |true=>
     have HQ:Hid (Za5 n rs t=0):=by show _=_;unfold Za5;rw[hb,hf,if_neg (by simp[HLEN.out]),if_neg (by simp),if_neg (by simp)]
     clear hb hf hn
     go_enter Tryz.func29,Tryz.ntmps29
     go_wp2_with (first
      |(go_at_call 68;(with_reducible refine(ZcG t _ _ _ _ HT.out).mono ?_);rw[HB.out];rintro e w1 ⟨rfl,hw1⟩;obtain rfl:=hw1.symm)
      |(go_at_call 69;(with_reducible refine(Ze3 lo pb n rs _ H.out).mono ?_);rintro e w1 ⟨rfl,hw1⟩;obtain rfl:=hw1.symm)
      |(go_at_call 70;(with_reducible refine HAS.out.mono ?_);rintro e w1 ⟨rfl,hw1⟩;obtain rfl:=hw1.symm)
      |(go_at_call 41;(with_reducible refine(Zi6 lo pb n rs _ H.out).mono ?_);rintro e w1 ⟨rfl,hw1⟩;obtain rfl:=hw1.symm)
      |(go_at_call 43;(with_reducible refine CL.out.mono ?_);rintro e w7 ⟨a7,c7,rfl,r7,_,e7⟩)
      |(go_at_call 71;(with_reducible refine(AD.out _ _ _ r7 e7).mono ?_);rintro e w8 ⟨rfl,q8,b8,f8⟩))
     go_ret2
     exact⟨by rw[HQ.out];rfl,by unfold ZbY;rw[HQ.out];exact q8,f8.after e7 HC.out⟩
   ·have hge:decide ((65536:Int)≤(rs.length:Int))=false:=decide_eq_false (by omega)
    have HQ:Hid (Za5 n rs t=0):=by show _=_;unfold Za5;rw[hb,if_neg (by simp[HLEN.out]),if_neg (by simp),if_neg (fun h=>hfull h.1)]
    clear hb hf hn HAS hfull
    go_enter Tryz.func29,Tryz.ntmps29
    go_wp2_with (first
     |(go_at_call 68;(with_reducible refine(ZcG t _ _ _ _ HT.out).mono ?_);rw[HB.out];rintro e w1 ⟨rfl,hw1⟩;obtain rfl:=hw1.symm)
     |(go_at_call 69;(with_reducible refine(Ze3 lo pb n rs _ H.out).mono ?_);rintro e w1 ⟨rfl,hw1⟩;obtain rfl:=hw1.symm)
     |(go_at_call 41;(with_reducible refine(Zi6 lo pb n rs _ H.out).mono ?_);rintro e w1 ⟨rfl,hw1⟩;obtain rfl:=hw1.symm)
     |(go_at_call 43;(with_reducible refine CL.out.mono ?_);rintro e w7 ⟨a7,c7,rfl,r7,_,e7⟩)
     |(go_at_call 71;(with_reducible refine(AD.out _ _ _ r7 e7).mono ?_);rintro e w8 ⟨rfl,q8,b8,f8⟩))
    go_ret2
    exact⟨by rw[HQ.out];rfl,by unfold ZbY;rw[HQ.out];exact q8,f8.after e7 HC.out⟩
 ·have hne2:¬((n:Int)=(ar:Int)):=by omega
  have HQ:Hid (Za5 ar rs t=30):=by show _=_;unfold Za5;rw[if_pos (by rw[HLEN.out];exact hne)]
  clear HAS
  go_enter Tryz.func29,Tryz.ntmps29
  go_wp2
  go_ret2
  exact⟨by rw[HQ.out];rfl,by unfold ZbY;rw[HQ.out];exact H.out,Zfu.refl _ _⟩
def Ty (w:World)(b:Nat)(t:TypeId):Prop:=∃cs x,w.heap[b]? =some (.cells cs t x)
theorem Ty.ne {w:World}{b b':Nat}{t t':TypeId}(h:Ty w b t)(h':Ty w b' t')(hne:t≠t'):b≠b':=by
 rintro rfl
 obtain⟨cs,x,e⟩:=h
 obtain⟨cs',x',e'⟩:=h'
 rw[e] at e'
 injection e' with e'
 injection e' with _ e2
 exact hne e2
theorem Ty.ext {w w':World}{b:Nat}{t:TypeId}(h:Ty w b t)(e:Ext w w'):Ty w' b t:=by
 obtain⟨cs,x,q⟩:=h
 exact⟨cs,x,(e.block b (zag q).1).trans q⟩
theorem Ty.but {w w':World}{b:Nat}{t:TypeId}{S:Nat→Prop}(h:Ty w b t)(e:Zah S w w')(hs:¬S b):Ty w' b t:=by
 obtain⟨cs,x,q⟩:=h
 exact⟨cs,x,(e.block b (zag q).1 hs).trans q⟩
theorem Ty.lt {w:World}{b:Nat}{t:TypeId}(h:Ty w b t):b<w.heap.size:=by
 obtain⟨cs,x,q⟩:=h
 exact(zag q).1
theorem ZaN {w:World}{base n size g:Nat}{e:TypeId}{v:Value}{xs:List Value}(h:w.ownsRow base e size v n xs)(hb:v.ownBlock=some g):Ty w g e:=by
 rcases h.2 with⟨rfl,_⟩|⟨g',c',cur,rfl,_,hg,_⟩
 ·cases hb
 ·cases hb
  exact⟨_,_,hg⟩
theorem Za6 {w:World}{pb n c:Nat}{a:Option Addr}(h:w.cell? ⟨pb,1,none⟩=some (.slice a n c)):ZaJ w pb=(Value.slice a n c).ownBlock:=by
 unfold ZaJ
 rw[h]
 cases a <;> rfl
theorem Zay.item_ty {w:World}{lo pb ar g:Nat}{rs:List (List ByteArray)}(h:Zay w lo pb ar rs)(hg:ZaJ w pb=some g):Ty w g 54∧lo≤g:=by
 obtain⟨a,c,vs,h1,h2,_⟩:=h.row
 rw[Za6 h1] at hg
 exact⟨ZaN h2 hg,(h2.lt g hg).1⟩
theorem Zay.but {w w':World}{lo pb ar:Nat}{rs:List (List ByteArray)}{S:Nat→Prop}(h:Zay w lo pb ar rs)(e:Zah S w w')(h1:¬S pb)(h2:∀g,ZaJ w pb=some g→¬S g)(h3:∀b,S b→¬Ty w b 9):Zay w' lo pb ar rs∧ZaJ w' pb=ZaJ w pb:=by
 obtain⟨a,c,vs,r1,r2,r3⟩:=h.row
 have ib:=Za6 r1
 have r1':=e.cell h1 r1
 refine⟨⟨h.lt,e.cell h1 h.c0,e.cell h1 h.c2,?_,a,c,vs,r1',e.own r2 (fun b hb=>h2 b (ib.trans hb)),fun i r v hr hv=>e.own (r3 i r v hr hv) (fun b hb hS=>h3 b hS (ZaN (r3 i r v hr hv) hb))⟩,by rw[Za6 r1',ib]⟩
 have:=h.free
 unfold World.frozen? at this ⊢
 simp only at this ⊢
 rw[e.block pb (World.block_lt_of_cell? w ⟨pb,1,none⟩ r1) h1]
 exact this
theorem ZaE {w w':World}{S:Nat→Prop}{b o:Nat}{q:Bool}(e:Zah S w w')(hs:¬S b)(hb:b<w.heap.size)(h:w.frozen? ⟨b,o,none⟩=q):w'.frozen? ⟨b,o,none⟩=q:=by
 unfold World.frozen? at h ⊢
 simp only at h ⊢
 rw[e.block b hb hs]
 exact h
structure Zbs (ar:Nat)(rs:List (List ByteArray)):Prop where
 wide:ar≤64
 up:Zbg rs
 few:rs.length≤65536
 row:∀r∈rs,r.length=ar∧ZaP r=true
theorem Zbs.nil {ar:Nat}(h:ar≤64):Zbs ar []:=⟨h,List.Pairwise.nil,by simp,by simp⟩
theorem Zbs.add {ar:Nat}{rs:List (List ByteArray)}(h:Zbs ar rs)(t:List ByteArray):Zbs ar (ZbY ar rs t):=by
 unfold ZbY
 split
 ·rename_i he
  unfold Za5 at he
  split at he
  ·cases he
  ·rename_i h1
   split at he
   ·cases he
   ·rename_i h2
    split at he
    ·cases he
    ·rename_i h3
     refine⟨h.wide,ZiF h.up t,?_,fun r hr=>?_⟩
     ·unfold ZaO
      split
      ·exact h.few
      ·rename_i hf
       have hlow:=(ZdP h.up t).1
       have:¬65536≤rs.length:=fun q=>h3 ⟨q,by simpa using hf⟩
       simp
       omega
     ·rcases (Zes h.up t r).1 hr with rfl|hr
      ·exact⟨by simpa using h1,by simpa using h2⟩
      ·exact h.row r hr
 ·exact h
abbrev ZaT:=ByteArray→Option (Nat×Nat×List (List ByteArray))
def ZbK {α:Type}(f:ByteArray→Option α)(k:ByteArray)(v:α):ByteArray→Option α:=fun x=>if x=k then some v else f x
structure ZbZ (w:World)(lo bb:Nat)(f:ZaT):Prop where
 low:lo≤bb
 ty:Ty w bb 95
 n:∃n,w.cell? ⟨bb,1,none⟩=some (.int .i64 n)
 free:w.frozen? ⟨bb,1,none⟩=false
 rel:∀k x,f k=some x→lo≤x.1∧Zay w (x.1+1) x.1 x.2.1 x.2.2∧Ty w x.1 100∧Zbs x.2.1 x.2.2
 apart:∀k k' x x',f k=some x→f k'=some x'→k≠k'→x.1≠x'.1∧∀g,ZaJ w x.1=some g→ZaJ w x'.1≠some g
def Zb0 (w:World)(lo bb:Nat)(m:ByteArray→Option Nat):Prop:=∃mb,lo≤mb∧w.cell? ⟨bb,0,none⟩=some (.map (some mb))∧K.ZhA w mb fun k=>(m k).map fun pb=>Value.pointer (some ⟨pb,0,none⟩)
structure Zbo (w:World)(lo bb:Nat)(f:ZaT):Prop where
 r:ZbZ w lo bb f
 m:Zb0 w lo bb fun k=>(f k).map fun x=>x.1
theorem ZbZ.ext {w w':World}{lo bb:Nat}{f:ZaT}(h:ZbZ w lo bb f)(e:Ext w w'):ZbZ w' lo bb f:=by
 have hi:∀k x,f k=some x→ZaJ w' x.1=ZaJ w x.1:=fun k x hx=>by
  obtain⟨_,h2,_,_⟩:=h.rel k x hx
  obtain⟨a,c,vs,r1,_⟩:=h2.row
  rw[Za6 r1,Za6 (Zac e r1)]
 obtain⟨n,hn⟩:=h.n
 refine⟨h.low,h.ty.ext e,⟨n,Zac e hn⟩,(e.frozen (p:=⟨bb,1,none⟩) h.ty.lt).trans h.free,fun k x hx=>?_,fun k k' x x' h1 h2 hne=>?_⟩
 ·obtain⟨q1,q2,q3,q4⟩:=h.rel k x hx
  exact⟨q1,q2.ext e,q3.ext e,q4⟩
 ·rw[hi k x h1,hi k' x' h2]
  exact h.apart k k' x x' h1 h2 hne
theorem Zb0.ext {w w':World}{lo bb:Nat}{m:ByteArray→Option Nat}(h:Zb0 w lo bb m)(e:Ext w w'):Zb0 w' lo bb m:=by
 obtain⟨mb,h1,h2,h3⟩:=h
 exact⟨mb,h1,Zac e h2,h3.ext e⟩
theorem Zbo.ext {w w':World}{lo bb:Nat}{f:ZaT}(h:Zbo w lo bb f)(e:Ext w w'):Zbo w' lo bb f:=⟨h.r.ext e,h.m.ext e⟩
theorem Zir {w w':World}{S:Nat→Prop}{mb:Nat}{f:ByteArray→Option Value}(h:K.ZhA w mb f)(e:Zah S w w')(hs:¬S mb):K.ZhA w' mb f:=by
 obtain⟨es,clock,h1,h2,h3⟩:=h
 exact⟨es,clock,by rw[e.block mb (zag h1).1 hs];exact h1,h2,h3⟩
theorem Zis {w:World}{mb:Nat}{f:ByteArray→Option Value}(h:K.ZhA w mb f){t:TypeId}:¬Ty w mb t:=by
 rintro⟨cs,x,e⟩
 obtain⟨es,clock,h1,_⟩:=h
 rw[h1] at e
 cases e
theorem Zb0.but {w w':World}{S:Nat→Prop}{lo bb:Nat}{m:ByteArray→Option Nat}(h:Zb0 w lo bb m)(e:Zah S w w')(hb:¬S bb)(hs:∀b,S b→∃t,Ty w b t):Zb0 w' lo bb m:=by
 obtain⟨mb,h1,h2,h3⟩:=h
 exact⟨mb,h1,e.cell hb h2,Zir h3 e (fun q=>by obtain⟨t,ht⟩:=hs mb q;exact Zis h3 ht)⟩
def Zb6 (w:World)(bb:Nat)(f:ZaT)(b:Nat):Prop:=b=bb∨w.cell? ⟨bb,0,none⟩=some (.map (some b))∨∃k x,f k=some x∧(b=x.1∨ZaJ w x.1=some b)
structure Zd6 (bb:Nat)(f f':ZaT)(w w':World):Prop where
 but:Zah (Zb6 w bb f) w w'
 own:∀b,Zb6 w' bb f' b→Zb6 w bb f b∨w.heap.size≤b
theorem Zd6.trans {bb:Nat}{f g h:ZaT}{x y z:World}(a:Zd6 bb f g x y)(b:Zd6 bb g h y z):Zd6 bb f h x z:=
 ⟨⟨b.but.os.trans a.but.os,b.but.tape.trans a.but.tape,b.but.output.trans a.but.output,Nat.le_trans a.but.size b.but.size,fun k hk hn=>(b.but.block k (Nat.lt_of_lt_of_le hk a.but.size) (fun q=>(a.own k q).elim hn (fun q=>by omega))).trans (a.but.block k hk hn)⟩,fun k hk=>(b.own k hk).elim (a.own k) fun q=>.inr (Nat.le_trans a.but.size q)⟩
theorem ZbZ.ext_bl {w w':World}{lo bb:Nat}{f:ZaT}(h:ZbZ w lo bb f)(e:Ext w w'){b:Nat}(hb:Zb6 w' bb f b):Zb6 w bb f b:=by
 rcases hb with hb|hb|⟨k,x,hx,hb⟩
 ·exact .inl hb
 ·refine .inr (.inl ?_)
  rw[←hb]
  exact(World.cell?_of_block (e.block bb h.ty.lt)).symm
 ·refine .inr (.inr ⟨k,x,hx,hb.imp id fun q=>?_⟩)
  obtain⟨_,h2,_,_⟩:=h.rel k x hx
  obtain⟨a,c,vs,r1,_⟩:=h2.row
  rw[Za6 r1]
  rwa [Za6 (Zac e r1)] at q
theorem ZbZ.ext_mv {w w':World}{lo bb:Nat}{f:ZaT}(h:ZbZ w lo bb f)(e:Ext w w'):Zd6 bb f f w w':=⟨(Zah.refl _ _).ext e,fun _ hb=>.inl (h.ext_bl e hb)⟩
theorem Zbo.bl {w:World}{lo bb:Nat}{f:ZaT}(h:Zbo w lo bb f){b:Nat}(hb:Zb6 w bb f b):lo≤b∧b<w.heap.size:=by
 rcases hb with rfl|hb|⟨k,x,hx,hb⟩
 ·exact⟨h.r.low,h.r.ty.lt⟩
 ·obtain⟨mb,h1,h2,h3⟩:=h.m
  rw[h2] at hb
  cases hb
  exact⟨h1,h3.lt⟩
 ·obtain⟨q1,q2,q3,_⟩:=h.r.rel k x hx
  rcases hb with rfl|hb
  ·exact⟨q1,q3.lt⟩
  ·have:=q2.item_ty hb
   exact⟨by have:=this.2;omega,this.1.lt⟩
theorem ZbZ.added {w w':World}{lo bb:Nat}{f:ZaT}(h:ZbZ w lo bb f){k:ByteArray}{pb ar:Nat}{rs rs':List (List ByteArray)}(hk:f k=some (pb,ar,rs))(e:Zfu pb w w')(h1:Zay w' (pb+1) pb ar rs')(h2:Zbs ar rs'):ZbZ w' lo bb (ZbK f k (pb,ar,rs'))∧(∀m,Zb0 w lo bb m→Zb0 w' lo bb m)∧Zah (fun b=>lo≤b) w w'∧Zd6 bb f (ZbK f k (pb,ar,rs')) w w'∧∀o v,w.cell? ⟨bb,o,none⟩=some v→w'.cell? ⟨bb,o,none⟩=some v:=by
 obtain⟨k1,k2,k3,k4⟩:=h.rel k _ hk
 have hS:∀b,(b=pb∨ZaJ w pb=some b)→(Ty w b 100∨Ty w b 54)∧lo≤b:=fun b hb=>by
  rcases hb with rfl|hb
  ·exact⟨.inl k3,k1⟩
  ·have:=k2.item_ty hb
   have q:lo≤pb:=k1
   exact⟨.inr this.1,by have:=this.2;simp only at this;omega⟩
 have nbb:¬(bb=pb∨ZaJ w pb=some bb):=fun q=>by
  rcases (hS bb q).1 with q|q
  ·exact h.ty.ne q (by decide) rfl
  ·exact h.ty.ne q (by decide) rfl
 have nst:∀b,(b=pb∨ZaJ w pb=some b)→¬Ty w b 9:=fun b hb hq=>by
  rcases (hS b hb).1 with q|q
  ·exact hq.ne q (by decide) rfl
  ·exact hq.ne q (by decide) rfl
 have oth:∀k' x',f k'=some x'→k'≠k→Zay w' (x'.1+1) x'.1 x'.2.1 x'.2.2∧ZaJ w' x'.1=ZaJ w x'.1:=fun k' x' hx' hne=>by
  obtain⟨o1,o2,o3,o4⟩:=h.rel k' x' hx'
  obtain⟨d1,d2⟩:=h.apart k k' _ _ hk hx' (Ne.symm hne)
  refine o2.but e.but ?_ ?_ nst
  ·rintro (q|q)
   ·exact d1 q.symm
   ·exact(k2.item_ty q).1.ne o3 (by decide) rfl
  ·rintro g hg (q|q)
   ·subst q
    exact(o2.item_ty hg).1.ne k3 (by decide) rfl
   ·exact d2 g q hg
 obtain⟨n,hn⟩:=h.n
 have tyr:Ty w' pb 100:=by
  obtain⟨cs,x,q⟩:=k3
  obtain⟨cs',q'⟩:=e.typ cs _ x q
  exact⟨cs',x,q'⟩
 have lt0:∀g,ZaJ w pb=some g→g<w.heap.size:=fun g hg=>(k2.item_ty hg).1.lt
 refine⟨⟨h.low,h.ty.but e.but nbb,⟨n,e.but.cell nbb hn⟩,ZaE e.but nbb h.ty.lt h.free,fun k' x' hx'=>?_,fun k' k'' x' x'' hx' hx'' hne=>?_⟩,fun m hm=>hm.but e.but nbb (fun b hb=>?_),e.but.mono fun b _ hb=>(hS b hb).2,⟨e.but.mono fun b _ hb=>.inr (.inr ⟨k,_,hk,hb⟩),fun b hb=>?_⟩,fun o v hv=>e.but.cell nbb hv⟩
 ·unfold ZbK at hx'
  split at hx'
  ·cases hx'
   exact⟨k1,h1,tyr,h2⟩
  ·rename_i hne
   obtain⟨o1,o2,o3,o4⟩:=h.rel k' x' hx'
   refine⟨o1,(oth k' x' hx' hne).1,o3.but e.but ?_,o4⟩
   rintro (q|q)
   ·exact(h.apart k k' _ _ hk hx' (Ne.symm hne)).1 q.symm
   ·exact(k2.item_ty q).1.ne o3 (by decide) rfl
 ·have nw:∀k3 x3,f k3=some x3→k3≠k→pb≠x3.1∧∀g,ZaJ w' pb=some g→ZaJ w' x3.1≠some g:=fun k3 x3 h3 hne3=>by
   obtain⟨d1,d2⟩:=h.apart k k3 _ _ hk h3 (Ne.symm hne3)
   obtain⟨_,o2,_,_⟩:=h.rel k3 x3 h3
   refine⟨d1,fun g hg=>?_⟩
   rw[(oth k3 x3 h3 hne3).2]
   rcases e.itm with q|⟨g',q,hg'⟩
   ·rw[q] at hg
    exact d2 g hg
   ·rw[q] at hg
    cases hg
    intro q2
    have:=(o2.item_ty q2).1.lt
    omega
  unfold ZbK at hx' hx''
  split at hx' <;> split at hx''
  ·rename_i e1 e2
   exact absurd (e1.trans e2.symm) hne
  ·rename_i e1 e2
   cases hx'
   exact nw k'' x'' hx'' e2
  ·rename_i e1 e2
   cases hx''
   obtain⟨q1,q2⟩:=nw k' x' hx' e1
   exact⟨Ne.symm q1,fun g hg hg2=>q2 g hg2 hg⟩
  ·rename_i e1 e2
   obtain⟨q1,q2⟩:=h.apart k' k'' x' x'' hx' hx'' hne
   rw[(oth k' x' hx' e1).2,(oth k'' x'' hx'' e2).2]
   exact⟨q1,q2⟩
 ·rcases (hS b hb).1 with q|q
  ·exact⟨_,q⟩
  ·exact⟨_,q⟩
 ·rcases hb with hb|hb|⟨k',x',hx',hb⟩
  ·exact .inl (.inl hb)
  ·refine .inl (.inr (.inl ?_))
   rw[←hb]
   exact(World.cell?_of_block (e.but.block bb h.ty.lt nbb)).symm
  ·unfold ZbK at hx'
   split at hx'
   ·cases hx'
    rcases hb with hb|hb
    ·exact .inl (.inr (.inr ⟨k,_,hk,.inl hb⟩))
    ·rcases e.itm with q|⟨g,q,hg⟩
     ·exact .inl (.inr (.inr ⟨k,_,hk,.inr (q.symm.trans hb)⟩))
     ·simp only at hb
      rw[q] at hb
      cases hb
      exact .inr hg
   ·rename_i hne
    rw[(oth k' x' hx' hne).2] at hb
    exact .inl (.inr (.inr ⟨k',x',hx',hb⟩))
theorem ZbZ.fresh {w w':World}{lo bb:Nat}{f:ZaT}(h:ZbZ w lo bb f)(k:ByteArray){ar:Nat}(e:Ext w w'){pb:Nat}(hpb:w.heap.size≤pb)(h1:Zay w' (pb+1) pb ar [])(h2:Ty w' pb 100)(h3:ZaJ w' pb=none)(har:ar≤64):ZbZ w' lo bb (ZbK f k (pb,ar,[]))∧Zd6 bb f (ZbK f k (pb,ar,[])) w w':=by
 have hE:=h.ext e
 have hlo:lo≤pb:=by have:=h.low;have:=h.ty.lt;omega
 refine⟨⟨hE.low,hE.ty,hE.n,hE.free,fun k' x' hx'=>?_,fun k' k'' x' x'' hx' hx'' hne=>?_⟩,(Zah.refl _ _).ext e,fun b hb=>?_⟩
 ·unfold ZbK at hx'
  split at hx'
  ·cases hx'
   exact⟨hlo,h1,h2,Zbs.nil har⟩
  ·exact hE.rel k' x' hx'
 ·have old:∀k3 x3,f k3=some x3→x3.1<pb:=fun k3 x3 hx3=>by
   have:=(h.rel k3 x3 hx3).2.2.1.lt
   omega
  unfold ZbK at hx' hx''
  split at hx' <;> split at hx''
  ·rename_i e1 e2
   exact absurd (e1.trans e2.symm) hne
  ·cases hx'
   refine⟨fun q=>?_,fun g hg=>?_⟩
   ·have:=old _ _ hx''
    simp only at q
    omega
   ·simp only at hg
    rw[h3] at hg
    cases hg
  ·cases hx''
   refine⟨fun q=>?_,fun g _ hg=>?_⟩
   ·have:=old _ _ hx'
    simp only at q
    omega
   ·simp only at hg
    rw[h3] at hg
    cases hg
  ·exact hE.apart k' k'' x' x'' hx' hx'' hne
 ·rcases hb with hb|hb|⟨k',x',hx',hb⟩
  ·exact .inl (.inl hb)
  ·exact(h.ext_mv e).own b (.inr (.inl hb))
  ·unfold ZbK at hx'
   split at hx'
   ·cases hx'
    rcases hb with rfl|hb
    ·exact .inr hpb
    ·simp only at hb
     rw[h3] at hb
     cases hb
   ·exact(h.ext_mv e).own b (.inr (.inr ⟨k',x',hx',hb⟩))
