/- The walks of a cursor's Up, Next, Seek, Key, Count. -/
import Derived.Test.YtjfbjjmiobgjfaaGreatG9
set_option maxRecDepth 100000
set_option maxHeartbeats 8000000
namespace Go.Proofs.YtjfbjjmiobgjfaaGreat
open ChangeShapes WideShapes ChangeAt RowKit
theorem Zcz.pop {w:World}{lo pc pt g c:Nat}{pre:List (Nat×Nat)}{s:Nat×Nat}(h:Zcz w lo pc pt (some g) (pre++[s]))(hc:w.cell? ⟨pc,1,none⟩=some (.slice (some ⟨g,0,none⟩) (pre.length+1) c)):Zcz (w.setCell ⟨pc,1,none⟩ (.slice (some ⟨g,0,none⟩) pre.length c)) lo pc pt (some g) pre∧Zah (Zj7 pc (some g)) w (w.setCell ⟨pc,1,none⟩ (.slice (some ⟨g,0,none⟩) pre.length c)):=by
 have hne:=(h.ne rfl).1
 obtain⟨⟨a,c',h1,h2,h3⟩,h4⟩:=h
 have hl:(pre++[s]).length=pre.length+1:=by simp
 rw[hl] at h1 h2 h3
 have e:w.cell? ⟨pc,1,none⟩=some (.slice a (pre.length+1) c'):=by simp[World.cell?,h1]
 rw[hc] at e
 cases e
 have h5:=ZrL h2
 have e5:(spV (pre++[s])).take (pre.length*2)=spV pre:=by
  rw[ZgL,List.take_append_of_le_length (by rw[Zi1];exact Nat.le_refl _),List.take_of_length_le (by rw[Zi1];exact Nat.le_refl _)]
 rw[e5] at h5
 refine⟨⟨⟨some ⟨g,0,none⟩,c,?_,Zam (a:=⟨pc,1,none⟩) h5 (.inr (fun e=>hne (Option.some.inj e))) _,rfl⟩,h4⟩,(Zah.refl _ w).set (.inl (.inl rfl)) _ _⟩
 rw[heap_setCell_same w pc 1 _ _ _ h1]
 rfl
theorem ZrR (pc pt lo:Nat)(rb:Option Nat)(w:World)(h:Zcz w lo pc pt rb []):
  Calls Tryz.prog 139 #[.pointer (some ⟨pc,0,none⟩)] w fun e w'=>e=.returned (.bool false)∧w'=w:=by
 have L:=zh (ZdJ pc pt lo rb w h)
 clear h
 go_enter Tryz.func139,Tryz.ntmps139
 go_wp2_with (go_at_call 158;(with_reducible refine L.out.mono ?_);rintro e w1 ⟨rfl,hw1⟩;obtain rfl:=hw1.symm)
 go_returns
 exact⟨rfl,rfl⟩
theorem c_up (pc pt lo g:Nat)(pre:List (Nat×Nat))(f t:Nat)(w:World)(h:Zcz w lo pc pt (some g) (pre++[(f,t)])):
  Calls Tryz.prog 139 #[.pointer (some ⟨pc,0,none⟩)] w fun e w'=>e=.returned (.bool true)∧Zcz w' lo pc pt (some g) pre∧Zah (Zj7 pc (some g)) w w':=by
 have L:=zh (Zgs pc pt lo g pre f t w h)
 obtain⟨g',c,e,h0,h1,h2,hc,_,_,_,hcm⟩:=h.last
 cases e
 have POP:Hid (∀W,(∃q,W=w.drewN q)→Zcz (W.drew.setCell ⟨pc,1,none⟩ (.slice (some ⟨g,0,none⟩) pre.length c)) lo pc pt (some g) pre∧Zah (Zj7 pc (some g)) w (W.drew.setCell ⟨pc,1,none⟩ (.slice (some ⟨g,0,none⟩) pre.length c))):=fun W ⟨q,hq⟩=>by
  have e:Ext w W.drew:=by rw[hq];exact Zaf (Zae zbr q)
  obtain⟨p1,p2⟩:=(h.ext e).pop (Zac e h1)
  exact⟨p1,((Zah.refl _ w).ext e).trans p2⟩
 obtain⟨k,hk⟩:∃k,pre.length=k:=⟨_,rfl⟩
 rw[hk] at h1 hc L POP
 have hcm2:c≤9223372036854775807:=hcm
 have r1:IntKind.i64.wrap (k:Int)=(k:Int):=by rw[IntKind.wrap_i64];omega
 have r2:(k:Int)≤(c:Int):=by omega
 have r3:(k:Int)≤(k:Int)+1:=by omega
 clear h hk hcm
 go_enter Tryz.func139,Tryz.ntmps139
 go_upto_region 3 with (go_at_call 158;(with_reducible refine L.out.mono ?_);rintro e w1 ⟨rfl,hw1⟩)
 have HQ:=zh hw1
 have e1:Ext w w1:=by obtain⟨q,hq⟩:=hw1;rw[hq];exact Zae zbr q
 have k1:=Zac e1 h1
 have k2:w1.frozen? ⟨pc,1,none⟩=false:=(e1.frozen (p:=⟨pc,1,none⟩) (World.block_lt_of_cell? w ⟨pc,1,none⟩ h1)).trans h2
 clear hw1 e1
 go_still_tail 12,(by kernel_rfl)
 change wpList _ _ _ _ _ w1.drew
 go_wp2
 go_returns
 exact⟨rfl,(POP.out w1 HQ.out).1,(POP.out w1 HQ.out).2⟩
theorem Zi7 (pc pt lo:Nat)(rb:Option Nat)(sp:List (Nat×Nat))(w:World)(h:Zcz w lo pc pt rb sp)(hn:sp=[]∨Zle sp=true):
  Calls Tryz.prog 162 #[.pointer (some ⟨pc,0,none⟩)] w fun e w'=>e=.returned (.bool false)∧Ext w w':=by
 rcases sp.eq_nil_or_concat with rfl|⟨pre,⟨f,t⟩,e⟩
 ·have L:=zh (ZdJ pc pt lo rb w h)
  clear h hn
  go_enter Tryz.func162,Tryz.ntmps162
  go_wp2_with (go_at_call 158;(with_reducible refine L.out.mono ?_);rintro e w1 ⟨rfl,hw1⟩;obtain rfl:=hw1.symm)
  go_returns
  exact⟨rfl,Below.refl _ _⟩
 ·rw[List.concat_eq_append] at e
  subst e
  have hn2:Zle (pre++[(f,t)])=true:=by
   rcases hn with hn|hn
   ·simp at hn
   ·exact hn
  obtain⟨g,c,rfl,_⟩:=h.last
  have L:=zh (Zgs pc pt lo g pre f t w h)
  have H:=zh h
  have AE:Hid (∀w1,Ext w w1→Calls Tryz.prog 154 #[.pointer (some ⟨pc,0,none⟩)] w1 fun e w'=>e=.returned (.bool true)∧Ext w w'):=fun w1 h1=>by
   have A:=Zc9 pc pt lo (some g) (pre++[(f,t)]) w1 (H.out.ext h1)
   rw[hn2] at A
   exact A.mono fun e w' ⟨r1,q,r2⟩=>⟨r1,by rw[r2];exact Zae h1 q⟩
  clear h hn hn2
  go_enter Tryz.func162,Tryz.ntmps162
  go_wp2_with (first
   |(go_at_call 158;(with_reducible refine L.out.mono ?_);rintro e w1 ⟨rfl,q1,hw1⟩;have E1:Ext w w1:=(by rw[hw1];exact Zae zbr q1);clear hw1)
   |(go_at_call 154;(with_reducible refine(AE.out _ E1).mono ?_);rintro e w2 ⟨rfl,E2⟩))
  go_returns
  exact⟨rfl,E2⟩
theorem Ztl (pc pt lo g:Nat)(pre:List (Nat×Nat))(f t:Nat)(w:World)(h:Zcz w lo pc pt (some g) (pre++[(f,t)]))(hft:f<t)(ht:t≤1000000):
  Calls Tryz.prog 162 #[.pointer (some ⟨pc,0,none⟩)] w fun e w'=>e=.returned (.bool (!decide (f+1=t)))∧Zcz w' lo pc pt (some g) (pre++[(f+1,t)])∧Zah (Zj7 pc (some g)) w w':=by
 have L:=zh (Zgs pc pt lo g pre f t w h)
 have H:=zh h
 obtain⟨g',c,e,_,_,_,_,z0,z1,z2,_⟩:=h.last
 cases e
 have AE:Hid (∀w1,Ext w w1→Calls Tryz.prog 154 #[.pointer (some ⟨pc,0,none⟩)] w1 fun e w'=>e=.returned (.bool false)∧Ext w w'):=fun w1 h1=>by
  have A:=Zc9 pc pt lo (some g) (pre++[(f,t)]) w1 (H.out.ext h1)
  rw[Zbu,show decide (f=t)=false by simp;omega] at A
  exact A.mono fun e w' ⟨r1,q,r2⟩=>⟨r1,by rw[r2];exact Zae h1 q⟩
 have MV:Hid (∀w1,Ext w w1→Zcz (w1.setCell ⟨g,pre.length*2,none⟩ (.int .i64 ((f+1:Nat):Int))) lo pc pt (some g) (pre++[(f+1,t)])∧Zah (Zj7 pc (some g)) w (w1.setCell ⟨g,pre.length*2,none⟩ (.int .i64 ((f+1:Nat):Int)))):=fun w1 h1=>by
  obtain⟨m1,m2⟩:=(H.out.ext h1).move (f+1)
  exact⟨m1,((Zah.refl _ w).ext h1).trans m2⟩
 have AE2:Hid (∀w3,Zcz w3 lo pc pt (some g) (pre++[(f+1,t)])→Calls Tryz.prog 154 #[.pointer (some ⟨pc,0,none⟩)] w3 fun e w'=>e=.returned (.bool (decide (f+1=t)))∧Ext w3 w'):=fun w3 h1=>by
  have A:=Zc9 pc pt lo (some g) (pre++[(f+1,t)]) w3 h1
  rw[Zbu] at A
  exact A.mono fun e w' ⟨r1,q,r2⟩=>⟨r1,by rw[r2];exact Zae zbr q⟩
 have ec:(f:Int)+1=((f+1:Nat):Int):=by omega
 have hfm:f+1≤1000000:=by omega
 have EC:=zh ec
 obtain⟨b,hb⟩:∃b,decide (f+1=t)=b:=⟨_,rfl⟩
 rw[hb] at AE2 ⊢
 clear h hft hb ec
 go_enter Tryz.func162,Tryz.ntmps162
 go_upto_region 4 with (first
  |(go_at_call 158;(with_reducible refine L.out.mono ?_);rintro e w1 ⟨rfl,q1,hw1⟩;have E1:Ext w w1:=(by rw[hw1];exact Zae zbr q1);clear hw1)
  |(go_at_call 154;(with_reducible refine(AE.out _ E1).mono ?_);rintro e w2 ⟨rfl,E2⟩))
 have k0:=Zac E2 z0
 have k2:w2.frozen? ⟨g,pre.length*2,none⟩=false:=(E2.frozen (p:=⟨g,pre.length*2,none⟩) (World.block_lt_of_cell? w ⟨g,pre.length*2,none⟩ z0)).trans z2
 go_upto_region 5 with (fail)
 rw[EC.out]
 refine Zba (fun W5 hW5=>?_)
 obtain⟨m1,m2⟩:=MV.out w2 E2
 rw[←hW5] at m1 m2
 have A3:=zh (AE2.out W5 m1)
 have M1:=zh m1
 have M2:=zh m2
 clear hW5 m1 m2 AE AE2 MV
 go_wp2_with (go_at_call 154;(with_reducible refine A3.out.mono ?_);rintro e w6 ⟨rfl,E6⟩)
 go_returns
 exact⟨rfl,M1.out.ext E6,M2.out.ext E6⟩
theorem Zi8 (pc pt lo:Nat)(rb:Option Nat)(sp:List (Nat×Nat))(x:ByteArray)(w:World)(h:Zcz w lo pc pt rb sp)(hn:sp=[]∨Zle sp=true):
  Calls Tryz.prog 161 #[.pointer (some ⟨pc,0,none⟩),.string x] w fun e w'=>e=.returned (.bool false)∧Ext w w':=by
 rcases sp.eq_nil_or_concat with rfl|⟨pre,⟨f,t⟩,e⟩
 ·have L:=zh (ZdJ pc pt lo rb w h)
  clear h hn
  go_enter Tryz.func161,Tryz.ntmps161
  go_wp2_with (go_at_call 158;(with_reducible refine L.out.mono ?_);rintro e w1 ⟨rfl,hw1⟩;obtain rfl:=hw1.symm)
  go_returns
  exact⟨rfl,Below.refl _ _⟩
 ·rw[List.concat_eq_append] at e
  subst e
  have hn2:Zle (pre++[(f,t)])=true:=by
   rcases hn with hn|hn
   ·simp at hn
   ·exact hn
  obtain⟨g,c,rfl,_⟩:=h.last
  have L:=zh (Zgs pc pt lo g pre f t w h)
  have H:=zh h
  have AE:Hid (∀w1,Ext w w1→Calls Tryz.prog 154 #[.pointer (some ⟨pc,0,none⟩)] w1 fun e w'=>e=.returned (.bool true)∧Ext w w'):=fun w1 h1=>by
   have A:=Zc9 pc pt lo (some g) (pre++[(f,t)]) w1 (H.out.ext h1)
   rw[hn2] at A
   exact A.mono fun e w' ⟨r1,q,r2⟩=>⟨r1,by rw[r2];exact Zae h1 q⟩
  clear h hn hn2
  go_enter Tryz.func161,Tryz.ntmps161
  go_wp2_with (first
   |(go_at_call 158;(with_reducible refine L.out.mono ?_);rintro e w1 ⟨rfl,q1,hw1⟩;have E1:Ext w w1:=(by rw[hw1];exact Zae zbr q1);clear hw1)
   |(go_at_call 154;(with_reducible refine(AE.out _ E1).mono ?_);rintro e w2 ⟨rfl,E2⟩))
  go_returns
  exact⟨rfl,E2⟩
theorem ZrS (pc pt lo g d:Nat)(ways:List (List ByteArray))(pre:List (Nat×Nat))(f t A B:Nat)(x:ByteArray)(w:World)(h:Zcz w lo pc pt (some g) (pre++[(f,t)]))(ht:ZbV w pt d ways)(hw:ZcE d ways)(hf:ZbJ d ways pre f t A B)(hft:f<t)(hn:ways.length≤1000000)(r:Nat)(hr:skP (Zcc ways pre.length ways.length) f t x=r):
  Calls Tryz.prog 161 #[.pointer (some ⟨pc,0,none⟩),.string x] w fun e w'=>e=.returned (.bool (!decide (r=t)))∧Zcz w' lo pc pt (some g) (pre++[(r,t)])∧Zah (Zj7 pc (some g)) w w':=by
 have L:=zh (Zgs pc pt lo g pre f t w h)
 have H:=zh h
 obtain⟨g',c,e,y0,y1,_,hc,z0,z1,z2,hcm⟩:=h.last
 cases e
 have AE:Hid (∀w1,Ext w w1→Calls Tryz.prog 154 #[.pointer (some ⟨pc,0,none⟩)] w1 fun e w'=>e=.returned (.bool false)∧Ext w w'):=fun w1 h1=>by
  have A:=Zc9 pc pt lo (some g) (pre++[(f,t)]) w1 (H.out.ext h1)
  rw[Zbu,show decide (f=t)=false by simp;omega] at A
  exact A.mono fun e w' ⟨r1,q,r2⟩=>⟨r1,by rw[r2];exact Zae h1 q⟩
 have MV:Hid (∀w1,Ext w w1→Zcz (w1.setCell ⟨g,pre.length*2,none⟩ (.int .i64 (r:Int))) lo pc pt (some g) (pre++[(r,t)])∧Zah (Zj7 pc (some g)) w (w1.setCell ⟨g,pre.length*2,none⟩ (.int .i64 (r:Int)))):=fun w1 h1=>by
  obtain⟨m1,m2⟩:=(H.out.ext h1).move r
  exact⟨m1,((Zah.refl _ w).ext h1).trans m2⟩
 have AE2:Hid (∀w3,Zcz w3 lo pc pt (some g) (pre++[(r,t)])→Calls Tryz.prog 154 #[.pointer (some ⟨pc,0,none⟩)] w3 fun e w'=>e=.returned (.bool (decide (r=t)))∧Ext w3 w'):=fun w3 h1=>by
  have A:=Zc9 pc pt lo (some g) (pre++[(r,t)]) w3 h1
  rw[Zbu] at A
  exact A.mono fun e w' ⟨r1,q,r2⟩=>⟨r1,by rw[r2];exact Zae zbr q⟩
 have wb:=ZaY ways pre.length hf.seg.top
 have htop:=hf.top
 have SK:Hid (∀w2,Ext w w2→Calls Tryz.prog 185 #[.pointer (some ⟨pt,0,none⟩),.int .i64 (pre.length:Int),.agg #[.int .i64 (f:Int),.int .i64 (t:Int)],.string x] w2 fun e w'=>e=.returned (.int .i64 (r:Nat))∧Ext w w'):=fun w2 h2=>by
  rw[←hr]
  exact(ZuB pt d ways pre.length f t x w2 (ht.ext h2) hf.dep hf.le (by omega) hf.pos (fun p q a b h1 h3 h4=>hf.seg.cut hw hf.dep x hf.ge p q a b h1 h3 (by omega)) hn).mono fun e w' ⟨r1,r2⟩=>⟨r1,Zaa h2 r2⟩
 obtain⟨k,hk⟩:∃k,pre.length=k:=⟨_,rfl⟩
 obtain⟨b,hb⟩:∃b,decide (r=t)=b:=⟨_,rfl⟩
 rw[hb] at AE2 ⊢
 rw[hk] at L y1 z0 z1 z2 MV SK hc
 have hcm2:c≤9223372036854775807:=hcm
 have r1:IntKind.i64.wrap (k:Int)=(k:Int):=by rw[IntKind.wrap_i64];omega
 clear h hft hb hr hf hk htop wb ht hcm
 go_enter Tryz.func161,Tryz.ntmps161
 go_upto_region 4 with (first
  |(go_at_call 158;(with_reducible refine L.out.mono ?_);rintro e w1 ⟨rfl,q1,hw1⟩;have E1:Ext w w1:=(by rw[hw1];exact Zae zbr q1);clear hw1)
  |(go_at_call 154;(with_reducible refine(AE.out _ E1).mono ?_);rintro e w2 ⟨rfl,E2⟩))
 have k0:=Zac E2 z0
 have k1:=Zac E2 z1
 have k2:Hid (w2.frozen? ⟨g,k*2,none⟩=false):=(E2.frozen (p:=⟨g,k*2,none⟩) (World.block_lt_of_cell? w ⟨g,k*2,none⟩ z0)).trans z2
 have k3:=Zac E2 y0
 have k4:=Zac E2 y1
 have K0:=zh k0
 have d0:=Zac (Zaf (Below.refl _ w2)) k0
 have d1:=Zac (Zaf (Below.refl _ w2)) k1
 have d3:=Zac (Zaf (Below.refl _ w2)) k3
 have d4:=Zac (Zaf (Below.refl _ w2)) k4
 have SK2:=zh (SK.out w2.drew (Zaf E2))
 go_region_law (first
  |(go_simp;go_wp2_with (go_at_call 185;(with_reducible refine SK2.out.mono ?_);rintro e w3 ⟨rfl,E3⟩;have n0:=Zac E3 z0;have n2:w3.frozen? ⟨g,k*2,none⟩=false:=(E3.frozen (p:=⟨g,k*2,none⟩) (World.block_lt_of_cell? w ⟨g,k*2,none⟩ z0)).trans z2))
  |fail)
 all_goals
  go_wp2_with (go_at_call 154;(with_reducible refine(AE2.out _ (MV.out _ E3).1).mono ?_);rintro e w6 ⟨rfl,E6⟩)
  go_returns
  exact⟨rfl,(MV.out _ E3).1.ext E6,(MV.out _ E3).2.ext E6⟩
theorem ZbV.reads {w:World}{pt d:Nat}{ways:List (List ByteArray)}{pre:List (Nat×Nat)}{f t A B:Nat}(ht:ZbV w pt d ways)(hf:ZbJ d ways pre f t A B)(hft:f<t):∃gl kb ko kc,w.cell? ⟨pt,0,none⟩=some (.slice (some ⟨gl,0,none⟩) d d)∧w.cell? ⟨gl,pre.length*2,none⟩=some (.slice (some ⟨kb,ko,none⟩) (wid ways pre.length ways.length) kc)∧w.cell? ⟨kb,ko+f,none⟩=some (.string (ZbP ways pre.length (st ways pre.length f)))∧f<wid ways pre.length ways.length:=by
 obtain⟨gl,h0,h1⟩:=ht.keys
 obtain⟨ka,kc,z1,z2,_,_⟩:=h1 pre.length hf.dep
 have wb:=ZaY ways pre.length hf.seg.top
 have hfN:f<wid ways pre.length ways.length:=by have:=hf.top;omega
 obtain⟨y,kb,ko,hy,rfl,hc⟩:=z2.2.at hfN
 rw[ZfG ways _ f hfN] at hy
 cases hy
 exact⟨gl,kb,ko,kc,h0,z1,by simpa [Zdg] using hc,hfN⟩
theorem Zig {ops:Array Oper}{o:Oper}{a:Act}{K:Act→World→Prop}{Q:Exit→Act→World→Prop}{E:Prop}(W0:World)(z:ByteArray)(base:Nat)(fa:Option Addr)(n fc:Nat)(l:List ByteArray)(hown:W0.ownsRow base 9 1 (.slice fa n fc) n (l.map Value.string))(hn:n≤1000000)(hbase:base≤W0.heap.size)(hgd:o.guard=none)(s x:Operand)
  (ho:o.op=.call {callee:=.builtin .append,args:=#[s,x],argTypes:=#[54,54]}) (hs:a.eval s=.slice fa n fc) (hx:a.eval x=.slice (some ⟨W0.heap.size,0,none⟩) 1 1)
  (h:∀g cap w',w'.ownsRow base 9 1 (.slice (some ⟨g,0,none⟩) (n+1) cap) (n+1) ((l++[z]).map Value.string)→(W0.alloc (.cells #[.string z] 9)).grownBy w' (Value.slice fa n fc).ownBlock→K (a.put o.dst (.slice (some ⟨g,0,none⟩) (n+1) cap)) w'):
  if Region.wanted o (yielded ops a.tmps)=true then Oper.wp Tryz.prog o a (W0.alloc (.cells #[.string z] 9)) K Q else E:=by
 obtain⟨j0,hj,yz0,yz1,yz2⟩:=info_parts ZbI
 exact step_append_lies _ hgd s x 54 ho base 9 j0 (.string ⟨#[]⟩) 1 16 Tryz.underlying54 hj yz0 yz1 yz2 rfl (by decide) _ n (l.map Value.string) hs (hown.alloc _) ⟨W0.heap.size,0,none⟩ 1 1 [.string z] hx rfl (Zgt W0 _ _) (by simp[Value.oneCell']) (by omega) (by unfold maxLen;omega) (by omega) (by simp;omega) _ rfl fun g cap w1 hown1 hgrow _ _=>h g cap w1 (by rw[List.map_append];exact hown1) hgrow
theorem Znl:(Tryz.prog.info? 231).map (fun i=>(i.zero,i.size,i.bytes))=some (some (.agg #[.int .i64 0,.int .i64 0]),2,16):=by kernel_rfl
theorem ZuH (w:World)(u v:Value)(t:TypeId):∀j x,[u,v][j]? =some x→(w.alloc (.cells #[u,v] t)).cell? ((⟨w.heap.size,0,none⟩:Addr).add j)=some x:=by
 intro j x hx
 rw[Addr.add_lit,World.cell?_alloc_new,Nat.zero_add]
 simpa using hx
theorem Zcz.push {w w1:World}{lo pc pt n c g c':Nat}{rb:Option Nat}{sp:List (Nat×Nat)}{a:Option Addr}{o:Obj}{f t:Nat}(h:Zcz w lo pc pt rb sp)(hc:w.cell? ⟨pc,1,none⟩=some (.slice a n c))(hn:sp.length=n)
  (r1:w1.ownsRow lo 231 2 (.slice (some ⟨g,0,none⟩) (n+1) c') (n+1) (spV sp++[.int .i64 (f:Nat),.int .i64 (t:Nat)])) (r2:(w.alloc o).grownBy w1 (Value.slice a n c).ownBlock) (r3:(Value.slice a n c).ownBlock=some g∨g=(w.alloc o).heap.size):
  w1.cell? ⟨pc,1,none⟩=some (.slice a n c)∧w1.frozen? ⟨pc,1,none⟩=false∧w1.cell? ⟨pc,0,none⟩=some (.pointer (some ⟨pt,0,none⟩))∧Zcz (w1.setCell ⟨pc,1,none⟩ (.slice (some ⟨g,0,none⟩) (n+1) c')) lo pc pt (some g) (sp++[(f,t)])∧Zah (Zj7 pc rb) w (w1.setCell ⟨pc,1,none⟩ (.slice (some ⟨g,0,none⟩) (n+1) c'))∧(rb=some g∨w.heap.size≤g):=by
 subst hn
 have hnb:=fun g=>h.ne (g:=g)
 obtain⟨⟨a0,c0,h1,h2,h3⟩,h4⟩:=h
 have e:w.cell? ⟨pc,1,none⟩=some (.slice a0 sp.length c0):=by simp[World.cell?,h1]
 rw[hc] at e
 cases e
 rw[h3] at r2 r3
 have hlt:=(zag h1).1
 have hblk:w1.heap[pc]? =some (.cells #[.pointer (some ⟨pt,0,none⟩),.slice a sp.length c] 206 (0,0)):=by
  rw[r2.block pc (by simp;omega) (fun e=>by have:=(hnb pc e.symm).1;exact this rfl),heap_alloc_old w o hlt]
  exact h1
 have hgp:g≠pc:=by
  rintro rfl
  rcases r1.2 with⟨e,_⟩|⟨g',c2,cur,e,_,hg',_⟩
  ·cases e
  ·cases e
   rw[hblk] at hg'
   cases hg'
 have hl:(sp++[(f,t)]).length=sp.length+1:=by simp
 refine⟨by simp[World.cell?,hblk],by simp[World.frozen?,hblk],by simp[World.cell?,hblk],⟨⟨some ⟨g,0,none⟩,c',?_,?_,rfl⟩,h4⟩,?_,?_⟩
 ·rw[hl,heap_setCell_same w1 pc 1 _ _ _ hblk]
  rfl
 ·rw[hl,ZgL]
  exact Zam (a:=⟨pc,1,none⟩) r1 (.inr (fun e=>hgp (Option.some.inj e))) _
 ·exact(((Zah.refl _ w).alloc o).grown r2 (fun b e=>.inl (.inr e))).set (.inl (.inl rfl)) _ _
 ·rcases r3 with r|r
  ·exact .inl r
  ·refine .inr ?_
   rw[r]
   simp
theorem ZeF {ops:Array Oper}{o:Oper}{a:Act}{K:Act→World→Prop}{Q:Exit→Act→World→Prop}{E:Prop}(W0:World)(f t:Nat)(base:Nat)(fa:Option Addr)(n fc:Nat)(l:List Value)(hown:W0.ownsRow base 231 2 (.slice fa n fc) n l)(hn:n≤1000000)(hbase:base≤W0.heap.size)(hgd:o.guard=none)(s x:Operand)
  (ho:o.op=.call {callee:=.builtin .append,args:=#[s,x],argTypes:=#[204,204]}) (hs:a.eval s=.slice fa n fc) (hx:a.eval x=.slice (some ⟨W0.heap.size,0,none⟩) 1 1)
  (h:∀g cap w',w'.ownsRow base 231 2 (.slice (some ⟨g,0,none⟩) (n+1) cap) (n+1) (l++[.int .i64 (f:Nat),.int .i64 (t:Nat)])→(W0.alloc (.cells #[.int .i64 (f:Nat),.int .i64 (t:Nat)] 231)).grownBy w' (Value.slice fa n fc).ownBlock→((Value.slice fa n fc).ownBlock=some g∨g=(W0.alloc (.cells #[.int .i64 (f:Nat),.int .i64 (t:Nat)] 231)).heap.size)→K (a.put o.dst (.slice (some ⟨g,0,none⟩) (n+1) cap)) w'):
  if Region.wanted o (yielded ops a.tmps)=true then Oper.wp Tryz.prog o a (W0.alloc (.cells #[.int .i64 (f:Nat),.int .i64 (t:Nat)] 231)) K Q else E:=by
 obtain⟨j0,hj,yz0,yz1,yz2⟩:=info_parts Znl
 exact step_append_lies _ hgd s x 204 ho base 231 j0 (.agg #[.int .i64 0,.int .i64 0]) 2 16 Tryz.underlying204 hj yz0 yz1 yz2 rfl (by decide) _ n l hs (hown.alloc _) ⟨W0.heap.size,0,none⟩ 1 1 [.int .i64 (f:Nat),.int .i64 (t:Nat)] hx rfl (ZuH W0 _ _ _) (by simp[Value.oneCell']) (by omega) (by unfold maxLen;omega) (by omega) (by simp;omega) _ rfl fun g cap w1 hown1 hgrow hat _=>h g cap w1 hown1 hgrow hat
theorem Znm (pc pt lo d:Nat)(ways:List (List ByteArray))(rb:Option Nat)(sp:List (Nat×Nat))(w:World)(h:Zcz w lo pc pt rb sp)(ht:ZbV w pt d ways)(hm:ZcS d ways sp=false):
  Calls Tryz.prog 137 #[.pointer (some ⟨pc,0,none⟩)] w fun e w'=>e=.returned (.bool false)∧Ext w w':=by
 have AE:Hid (∀q,Calls Tryz.prog 154 #[.pointer (some ⟨pc,0,none⟩)] (w.drewN q) fun e w'=>e=.returned (.bool (Zle sp))∧∃m,w'=(w.drewN q).drewN m):=fun q=>Zc9 pc pt lo rb sp _ (h.ext (Zae zbr q))
 have AT:Hid (∀q,Calls Tryz.prog 155 #[.pointer (some ⟨pc,0,none⟩)] (w.drewN q) fun e w'=>e=.returned (.int .i64 (sp.length:Nat))∧w'=w.drewN q):=fun q=>Zvc pc pt lo rb sp _ (h.ext (Zae zbr q))
 have DP:Hid (∀q,Calls Tryz.prog 156 #[.pointer (some ⟨pt,0,none⟩)] (w.drewN q) fun e w'=>e=.returned (.int .i64 (d:Nat))∧w'=w.drewN q):=fun q=>Zld pt d ways _ (ht.ext (Zae zbr q))
 have LN:Hid (∀q,Calls Tryz.prog 157 #[.pointer (some ⟨pt,0,none⟩)] (w.drewN q) fun e w'=>e=.returned (.int .i64 (ways.length:Nat))∧w'=w.drewN q):=fun q=>Zpt pt d ways _ (ht.ext (Zae zbr q))
 obtain⟨a,c,h0,_⟩:=h.cells
 unfold ZcS at hm
 obtain⟨e,he⟩:∃e,Zle sp=e:=⟨_,rfl⟩
 obtain⟨q,hq⟩:∃q,decide (sp.length=d)=q:=⟨_,rfl⟩
 obtain⟨z,hz⟩:∃z,decide (ways.length=0)=z:=⟨_,rfl⟩
 rw[he,hq,hz] at hm
 rw[he] at AE
 have q1:((sp.length:Int)==(d:Int))=q:=by rw[←hq,Bool.eq_iff_iff];simp;omega
 have q2:((ways.length:Int)==0)=z:=by rw[←hz,Bool.eq_iff_iff];simp
 clear h ht he hq hz
 cases e with
 |true=>
  go_enter Tryz.func137,Tryz.ntmps137
  go_wp2
  go_quiet (first
   |(go_at_call 154;exact Calls.quiet_of (AE.out _))
   |(go_at_call 155;exact Calls.quiet_of_same (AT.out _))
   |(go_at_call 156;exact Calls.quiet_of_same (DP.out _))
   |(go_at_call 157;exact Calls.quiet_of_same (LN.out _)))
  go_wp2
  go_returns
  exact⟨rfl,Zae zbr _⟩
 |false=>
  cases q with
  |true=>
   go_enter Tryz.func137,Tryz.ntmps137
   go_wp2
   go_quiet (first
    |(go_at_call 154;exact Calls.quiet_of (AE.out _))
    |(go_at_call 155;exact Calls.quiet_of_same (AT.out _))
    |(go_at_call 156;exact Calls.quiet_of_same (DP.out _))
    |(go_at_call 157;exact Calls.quiet_of_same (LN.out _)))
   go_wp2
   go_returns
   exact⟨rfl,Zae zbr _⟩
  |false=>
   cases z with
   |true=>
    go_enter Tryz.func137,Tryz.ntmps137
    go_wp2
    go_quiet (first
     |(go_at_call 154;exact Calls.quiet_of (AE.out _))
     |(go_at_call 155;exact Calls.quiet_of_same (AT.out _))
     |(go_at_call 156;exact Calls.quiet_of_same (DP.out _))
     |(go_at_call 157;exact Calls.quiet_of_same (LN.out _)))
    go_wp2
    go_returns
    exact⟨rfl,Zae zbr _⟩
   |false=>simp at hm
def Zli (lo pc pt:Nat)(rb:Option Nat)(sp:List (Nat×Nat))(s:Nat×Nat)(w:World)(e:Ending)(w':World):Prop:=e=.returned (.bool true)∧∃g,Zcz w' lo pc pt (some g) (sp++[s])∧Zah (Zj7 pc rb) w w'∧(rb=some g∨w.heap.size≤g)
theorem Zcz.row {w:World}{lo pc pt:Nat}{rb:Option Nat}{sp:List (Nat×Nat)}(h:Zcz w lo pc pt rb sp)(a:Option Addr)(n c:Nat)(hc:w.cell? ⟨pc,1,none⟩=some (.slice a n c))(_:sp.length=n):w.ownsRow lo 231 2 (.slice a n c) n (spV sp)∧(Value.slice a n c).ownBlock=rb:=by
 obtain⟨⟨a0,c0,h1,h2,h3⟩,h4⟩:=h
 have e:w.cell? ⟨pc,1,none⟩=some (.slice a0 sp.length c0):=by simp[World.cell?,h1]
 rw[hc] at e
 cases e
 exact⟨h2,h3⟩
theorem Zcz.lt {w:World}{lo pc pt:Nat}{rb:Option Nat}{sp:List (Nat×Nat)}(h:Zcz w lo pc pt rb sp):pc<w.heap.size:=by
 obtain⟨⟨a0,c0,h1,h2,h3⟩,h4⟩:=h
 exact(zag h1).1
theorem Zml (pc pt lo d:Nat)(ways:List (List ByteArray))(rb:Option Nat)(w:World)(h:Zcz w lo pc pt rb [])(ht:ZbV w pt d ways)(hd:0<d)(hN:0<ways.length):
  Calls Tryz.prog 137 #[.pointer (some ⟨pc,0,none⟩)] w (Zli lo pc pt rb [] (0,wid ways 0 ways.length) w):=by
 obtain⟨n,hnl,hn0⟩:∃n,([]:List (Nat×Nat)).length=n∧n=0:=⟨0,rfl,rfl⟩
 have he:=Zmh
 have AE:Hid (∀q,Calls Tryz.prog 154 #[.pointer (some ⟨pc,0,none⟩)] (w.drewN q) fun e w'=>e=.returned (.bool false)∧∃m,w'=(w.drewN q).drewN m):=fun q=>by
  have:=Zc9 pc pt lo rb [] _ (h.ext (Zae zbr q))
  rwa [he] at this
 have AT:Hid (∀q,Calls Tryz.prog 155 #[.pointer (some ⟨pc,0,none⟩)] (w.drewN q) fun e w'=>e=.returned (.int .i64 (n:Nat))∧w'=w.drewN q):=fun q=>by
  have:=Zvc pc pt lo rb [] _ (h.ext (Zae zbr q))
  rwa [hnl] at this
 have DP:Hid (∀q,Calls Tryz.prog 156 #[.pointer (some ⟨pt,0,none⟩)] (w.drewN q) fun e w'=>e=.returned (.int .i64 (d:Nat))∧w'=w.drewN q):=fun q=>Zld pt d ways _ (ht.ext (Zae zbr q))
 have LN:Hid (∀q,Calls Tryz.prog 157 #[.pointer (some ⟨pt,0,none⟩)] (w.drewN q) fun e w'=>e=.returned (.int .i64 (ways.length:Nat))∧w'=w.drewN q):=fun q=>Zpt pt d ways _ (ht.ext (Zae zbr q))
 obtain⟨a,c,h0,hc1,hfz,_⟩:=h.cells
 rw[hnl] at hc1
 have H:=zh h
 have HT:=zh ht
 obtain⟨gl,t0,t1⟩:=ht.keys
 obtain⟨k0a,k0c,z0,_⟩:=t1 0 (by omega)
 rw[Nat.zero_mul] at z0
 have q1:((n:Int)==(d:Int))=false:=beq_eq_false_iff_ne.2 (by omega)
 have q2:((ways.length:Int)==0)=false:=beq_eq_false_iff_ne.2 (by omega)
 have q3:(0:Int)<(d:Int):=by omega
 have hn2:n≤1000000:=by omega
 have HNL:=zh hnl
 have L:Hid (∀w1,Ext w w1→Calls Tryz.prog 158 #[.pointer (some ⟨pc,0,none⟩)] w1 fun e w'=>e=.returned (.pointer none)∧Ext w w'∧Ext w1 w'):=fun w1 h1=>(ZdJ pc pt lo rb w1 (H.out.ext h1)).mono fun e w' ⟨r1,r2⟩=>⟨r1,by rw[r2];exact h1,by rw[r2];exact Below.refl _ _⟩
 obtain⟨y,hy⟩:∃y,wid ways 0 ways.length=y:=⟨_,rfl⟩
 obtain⟨x,hx⟩:∃x:Nat,x=0:=⟨0,rfl⟩
 rw[hy] at z0 ⊢
 rw[show ((0:Nat),y)=(x,y) by rw[hx]]
 have ix:(0:Int)=(x:Int):=by omega
 have IX:=zh ix
 clear h ht hnl hn0 he t1 hd hN hy hx ix
 go_enter Tryz.func137,Tryz.ntmps137
 go_wp2
 go_quiet (first
  |(go_at_call 154;exact Calls.quiet_of (AE.out _))
  |(go_at_call 155;exact Calls.quiet_of_same (AT.out _))
  |(go_at_call 156;exact Calls.quiet_of_same (DP.out _))
  |(go_at_call 157;exact Calls.quiet_of_same (LN.out _)))
 go_upto_region 3 with (fail)
 refine Zba (fun W3 hW3=>?_)
 have e3:Ext w W3:=by rw[hW3];exact Zae zbr _
 have k0:=Zac e3 h0
 have k1:=Zac e3 t0
 have k2:=Zac e3 z0
 clear hW3
 go_upto_region 4 with (fail)
 rw[IX.out]
 refine Zba (fun W4 hW4=>?_)
 have e4:Ext w W4:=by rw[hW4];exact Zab e3 _
 have b0:W4.cell? ⟨W3.heap.size,0,none⟩=some (.int .i64 (x:Int)):=by rw[hW4,←IX.out];go_simp
 have b1:W4.cell? ⟨W3.heap.size,1,none⟩=some (.int .i64 (y:Int)):=by rw[hW4];go_simp
 obtain⟨B7,hB7⟩:∃B7,W3.heap.size=B7:=⟨_,rfl⟩
 rw[hB7] at b0 b1 ⊢
 clear hW4 k0 k1 k2 e3 hB7
 go_upto_region 7 with (go_at_call 158;(with_reducible refine(L.out _ e4).mono ?_);rintro e w5 ⟨rfl,E5,E54⟩)
 refine Zba (fun W7 hW7=>?_)
 have e7:Ext w W7:=by rw[hW7];exact E5
 have s0:W7.cell? ⟨B7,0,none⟩=some (.int .i64 (x:Int)):=by rw[hW7];exact Zac E54 b0
 have s1:W7.cell? ⟨B7,1,none⟩=some (.int .i64 (y:Int)):=by rw[hW7];exact Zac E54 b1
 have HEX:=zh e7
 have HC7:=zh (H.out.ext (Zaf e7))
 have OW7:=zh HC7.out.row
 have d0:W7.drew.cell? ⟨pc,0,none⟩=some (.pointer (some ⟨pt,0,none⟩)):=Zac (Zaf e7) h0
 have d1:W7.drew.cell? ⟨pc,1,none⟩=some (.slice a n c):=Zac (Zaf e7) hc1
 obtain⟨OWR,_⟩:=OW7.out a n c d1 HNL.out
 have OWH:=zh OWR
 have p0:W7.drew.cell? ⟨B7,0,none⟩=some (.int .i64 (x:Int)):=s0
 have p1:W7.drew.cell? ⟨B7,1,none⟩=some (.int .i64 (y:Int)):=s1
 have u1:(W7.alloc (.cells #[.int .i64 (x:Int),.int .i64 (y:Int)] 231)).cell? ⟨pc,1,none⟩=some (.slice a n c):=Zac (Zab (Below.refl _ W7) _) (show W7.cell? _=_ from d1)
 have D1:=zh d1
 have hloz:Hid (lo≤W7.drew.heap.size):=Nat.le_trans H.out.lo (Nat.le_trans (Nat.le_of_lt H.out.lt) e7.size)
 clear OWR e7 s0 s1 hW7
 go_region_law (first
  |(refine ZeF W7.drew x y lo a n c (spV []) OWH.out hn2 hloz.out (by rfl) _ _ (by rfl) (by rfl) (by rfl) ?_;intro g6 c6 w6 r1 r2 r3;obtain⟨m1,m2,m3,m4,m5,m6⟩:=HC7.out.push D1.out HNL.out r1 r2 r3;have M4:=zh m4;have M5:=zh m5;have M6:=zh m6;clear m4 m5 m6 r1 r2 r3)
  |fail)
 all_goals
  go_wp2
  go_returns
  exact⟨rfl,_,M4.out,((Zah.refl _ w).ext (Zaf HEX.out)).trans M5.out,by
   rcases M6.out with r|r
   ·exact .inl r
   ·exact .inr (Nat.le_trans (Zaf HEX.out).size r)⟩
theorem Ztm (pc pt lo g0 d:Nat)(ways:List (List ByteArray))(pre:List (Nat×Nat))(f t A B:Nat)(w:World)(h:Zcz w lo pc pt (some g0) (pre++[(f,t)]))(ht:ZbV w pt d ways)(hf:ZbJ d ways pre f t A B)(hft:f<t)(hdp:pre.length+1<d)(hd64:d≤64)(hwn:ways.length≤1000000):
  Calls Tryz.prog 137 #[.pointer (some ⟨pc,0,none⟩)] w (Zli lo pc pt (some g0) (pre++[(f,t)]) (Zj4 ways pre.length f) w):=by
 obtain⟨n,hnl,hn0⟩:∃n,(pre++[(f,t)]).length=n∧n=pre.length+1:=⟨pre.length+1,by simp,rfl⟩
 have he:Zle (pre++[(f,t)])=false:=by rw[Zbu];simp;omega
 have hN:=hf.pos
 have AE:Hid (∀q,Calls Tryz.prog 154 #[.pointer (some ⟨pc,0,none⟩)] (w.drewN q) fun e w'=>e=.returned (.bool false)∧∃m,w'=(w.drewN q).drewN m):=fun q=>by
  have:=Zc9 pc pt lo (some g0) (pre++[(f,t)]) _ (h.ext (Zae zbr q))
  rwa [he] at this
 have AT:Hid (∀q,Calls Tryz.prog 155 #[.pointer (some ⟨pc,0,none⟩)] (w.drewN q) fun e w'=>e=.returned (.int .i64 (n:Nat))∧w'=w.drewN q):=fun q=>by
  have:=Zvc pc pt lo (some g0) (pre++[(f,t)]) _ (h.ext (Zae zbr q))
  rwa [hnl] at this
 have DP:Hid (∀q,Calls Tryz.prog 156 #[.pointer (some ⟨pt,0,none⟩)] (w.drewN q) fun e w'=>e=.returned (.int .i64 (d:Nat))∧w'=w.drewN q):=fun q=>Zld pt d ways _ (ht.ext (Zae zbr q))
 have LN:Hid (∀q,Calls Tryz.prog 157 #[.pointer (some ⟨pt,0,none⟩)] (w.drewN q) fun e w'=>e=.returned (.int .i64 (ways.length:Nat))∧w'=w.drewN q):=fun q=>Zpt pt d ways _ (ht.ext (Zae zbr q))
 obtain⟨a,c,h0,hc1,hfz,_⟩:=h.cells
 rw[hnl] at hc1
 have H:=zh h
 have HT:=zh ht
 obtain⟨gl,t0,t1⟩:=ht.keys
 obtain⟨k0a,k0c,z0,_⟩:=t1 0 (by omega)
 rw[Nat.zero_mul] at z0
 have q1:((n:Int)==(d:Int))=false:=beq_eq_false_iff_ne.2 (by omega)
 have q2:((ways.length:Int)==0)=false:=beq_eq_false_iff_ne.2 (by omega)
 have q3:(0:Int)<(d:Int):=by omega
 have hn2:n≤1000000:=by omega
 have HNL:=zh hnl
 have L:Hid (∀w1,Ext w w1→Calls Tryz.prog 158 #[.pointer (some ⟨pc,0,none⟩)] w1 fun e w'=>e=.returned (.pointer (some ⟨g0,pre.length*2,none⟩))∧Ext w w'∧Ext w1 w'):=fun w1 h1=>(Zgs pc pt lo g0 pre f t w1 (H.out.ext h1)).mono fun e w' ⟨r1,q,r2⟩=>⟨r1,by rw[r2];exact Zae h1 q,by rw[r2];exact Zae zbr q⟩
 obtain⟨g1,cc,e1,_,_,_,_,l0,l1,_⟩:=h.last
 cases e1
 have wb:=ZaY ways pre.length hf.seg.top
 have htop:=hf.top
 have BL:Hid (∀w2,Ext w w2→Calls Tryz.prog 159 #[.pointer (some ⟨pt,0,none⟩),.int .i64 (pre.length:Int),.int .i64 (f:Int)] w2 fun e w'=>e=.returned (Zna (Zj4 ways pre.length f))∧Ext w2 w'):=fun w2 h2=>Ztf pt d ways pre.length f w2 (HT.out.ext h2) hf.dep (by omega) hwn
 obtain⟨k,hk⟩:∃k,pre.length=k:=⟨_,rfl⟩
 obtain⟨⟨x,y⟩,hxy⟩:∃xy,Zj4 ways pre.length f=xy:=⟨_,rfl⟩
 rw[hxy] at BL ⊢
 rw[hk] at L l0 l1 BL hn0
 unfold Zna at BL
 dsimp only at BL
 obtain⟨y0,hy⟩:∃y0,wid ways 0 ways.length=y0:=⟨_,rfl⟩
 rw[hy] at z0
 have r1:IntKind.i64.wrap ((n:Int)-1)=(k:Int):=by rw[IntKind.wrap_i64];omega
 clear h ht hnl hn0 he t1 hN hy hxy hk hf hft hdp wb htop
 go_enter Tryz.func137,Tryz.ntmps137
 go_wp2
 go_quiet (first
  |(go_at_call 154;exact Calls.quiet_of (AE.out _))
  |(go_at_call 155;exact Calls.quiet_of_same (AT.out _))
  |(go_at_call 156;exact Calls.quiet_of_same (DP.out _))
  |(go_at_call 157;exact Calls.quiet_of_same (LN.out _)))
 go_upto_region 3 with (fail)
 refine Zba (fun W3 hW3=>?_)
 have e3:Ext w W3:=by rw[hW3];exact Zae zbr _
 have k0:=Zac e3 h0
 have k1:=Zac e3 t0
 have k2:=Zac e3 z0
 clear hW3
 go_upto_region 4 with (fail)
 refine Zba (fun W4 hW4=>?_)
 have e4:Ext w W4:=by rw[hW4];exact Zab e3 _
 have b0:W4.cell? ⟨W3.heap.size,0,none⟩=some (.int .i64 0):=by rw[hW4];go_simp
 have b1:W4.cell? ⟨W3.heap.size,1,none⟩=some (.int .i64 (y0:Int)):=by rw[hW4];go_simp
 have b2:W4.frozen? ⟨W3.heap.size,0,none⟩=false:=by rw[hW4];go_simp
 have b3:W4.frozen? ⟨W3.heap.size,1,none⟩=false:=by rw[hW4];go_simp
 have b4:W3.heap.size<W4.heap.size:=by rw[hW4];simp
 obtain⟨B7,hB7⟩:∃B7,W3.heap.size=B7:=⟨_,rfl⟩
 have hBz:w.heap.size≤B7:=by rw[←hB7];exact e3.size
 rw[hB7] at b0 b1 b2 b3 b4 ⊢
 clear hW4 k0 k1 k2 e3 hB7
 go_upto_region 6 with (go_at_call 158;(with_reducible refine(L.out _ e4).mono ?_);rintro e w5 ⟨rfl,E5,E54⟩)
 have m0:=Zac E5 h0
 have m1:=Zac E5 hc1
 have m2:=Zac E5 l0
 have E5h:=zh E5
 go_still_tail 14,(by kernel_rfl)
 change wpList _ _ _ _ _ w5.drew
 have B0h:=zh (Zac E54 b0)
 have B1h:=zh (Zac E54 b1)
 have F0h:=zh ((E54.frozen (p:=⟨B7,0,none⟩) b4).trans b2)
 have F1h:=zh ((E54.frozen (p:=⟨B7,1,none⟩) b4).trans b3)
 have b5:Hid (B7<w5.drew.heap.size):=Nat.lt_of_lt_of_le b4 E54.size
 clear b0 b1 b2 b3 b4 E54 e4
 go_upto_region 7 with (go_at_call 159;(with_reducible refine(BL.out _ (Zaf E5)).mono ?_);rintro e w6 ⟨rfl,E6⟩;have c0:=Zac E6 (show w5.drew.cell? ⟨B7,0,none⟩=_ from B0h.out);have c1:=Zac E6 (show w5.drew.cell? ⟨B7,1,none⟩=_ from B1h.out);have c2:=(E6.frozen (p:=⟨B7,0,none⟩) b5.out).trans F0h.out;have c3:=(E6.frozen (p:=⟨B7,1,none⟩) b5.out).trans F1h.out)
 refine Zba (fun W7 hW7=>?_)
 have e7:Ext w W7:=by rw[hW7];exact Zal (Zal (Zaa (Zaf E5h.out) E6) hBz _) hBz _
 have s0:W7.cell? ⟨B7,0,none⟩=some (.int .i64 (x:Int)):=by rw[hW7];go_simp
 have s1:W7.cell? ⟨B7,1,none⟩=some (.int .i64 (y:Int)):=by rw[hW7];go_simp
 have HEX:=zh e7
 have HC7:=zh (H.out.ext (Zaf e7))
 have OW7:=zh HC7.out.row
 have d0:W7.drew.cell? ⟨pc,0,none⟩=some (.pointer (some ⟨pt,0,none⟩)):=Zac (Zaf e7) h0
 have d1:W7.drew.cell? ⟨pc,1,none⟩=some (.slice a n c):=Zac (Zaf e7) hc1
 obtain⟨OWR,_⟩:=OW7.out a n c d1 HNL.out
 have OWH:=zh OWR
 have p0:W7.drew.cell? ⟨B7,0,none⟩=some (.int .i64 (x:Int)):=s0
 have p1:W7.drew.cell? ⟨B7,1,none⟩=some (.int .i64 (y:Int)):=s1
 have u1:(W7.alloc (.cells #[.int .i64 (x:Int),.int .i64 (y:Int)] 231)).cell? ⟨pc,1,none⟩=some (.slice a n c):=Zac (Zab (Below.refl _ W7) _) (show W7.cell? _=_ from d1)
 have D1:=zh d1
 have hloz:Hid (lo≤W7.drew.heap.size):=Nat.le_trans H.out.lo (Nat.le_trans (Nat.le_of_lt H.out.lt) e7.size)
 clear OWR e7 s0 s1 hW7
 go_region_law (first
  |(refine ZeF W7.drew x y lo a n c (spV (pre++[(f,t)])) OWH.out hn2 hloz.out (by rfl) _ _ (by rfl) (by rfl) (by rfl) ?_;intro g6 c6 w6 r1 r2 r3;obtain⟨m1,m2,m3,m4,m5,m6⟩:=HC7.out.push D1.out HNL.out r1 r2 r3;have M4:=zh m4;have M5:=zh m5;have M6:=zh m6;clear m4 m5 m6 r1 r2 r3)
  |fail)
 all_goals
  go_wp2
  go_returns
  exact⟨rfl,_,M4.out,((Zah.refl _ w).ext (Zaf HEX.out)).trans M5.out,by
   rcases M6.out with r|r
   ·exact .inl r
   ·exact .inr (Nat.le_trans (Zaf HEX.out).size r)⟩
def Znn (d:Nat)(ways:List (List ByteArray))(sp:List (Nat×Nat)):List (Nat×Nat):=if ZcS d ways sp=true then sp++[Znb ways sp] else sp
def Zno (sp:List (Nat×Nat)):List (Nat×Nat):=match sp.getLast? with
 |some s=>if s.1=s.2 then sp else sp.dropLast++[(s.1+1,s.2)]
 |none=>sp
def ZpE (sp:List (Nat×Nat)):Bool:=match sp.getLast? with
 |some s=>if s.1=s.2 then false else !decide (s.1+1=s.2)
 |none=>false
def ZpF (ways:List (List ByteArray))(sp:List (Nat×Nat))(s:Nat×Nat)(x:ByteArray):Nat:=skP (Zcc ways (sp.length-1) ways.length) s.1 s.2 x
def Znp (ways:List (List ByteArray))(sp:List (Nat×Nat))(x:ByteArray):List (Nat×Nat):=match sp.getLast? with
 |some s=>if s.1=s.2 then sp else sp.dropLast++[(ZpF ways sp s x,s.2)]
 |none=>sp
def ZpG (ways:List (List ByteArray))(sp:List (Nat×Nat))(x:ByteArray):Bool:=match sp.getLast? with
 |some s=>if s.1=s.2 then false else !decide (ZpF ways sp s x=s.2)
 |none=>false
theorem ZfJ (pre:List (Nat×Nat))(f t:Nat):Zno (pre++[(f,t)])=if f=t then pre++[(f,t)] else pre++[(f+1,t)]:=by simp[Zno]
theorem ZhK (pre:List (Nat×Nat))(f t:Nat):ZpE (pre++[(f,t)])=if f=t then false else !decide (f+1=t):=by simp[ZpE]
theorem Zen (ways:List (List ByteArray))(pre:List (Nat×Nat))(f t:Nat)(x:ByteArray):Znp ways (pre++[(f,t)]) x=if f=t then pre++[(f,t)] else pre++[(skP (Zcc ways pre.length ways.length) f t x,t)]:=by simp[Znp,ZpF]
theorem ZfK (ways:List (List ByteArray))(pre:List (Nat×Nat))(f t:Nat)(x:ByteArray):ZpG ways (pre++[(f,t)]) x=if f=t then false else !decide (skP (Zcc ways pre.length ways.length) f t x=t):=by simp[ZpG,ZpF]
def ZbX (lo pc pt:Nat)(rb:Option Nat)(sp':List (Nat×Nat))(b:Bool)(w:World)(e:Ending)(w':World):Prop:=∃rb',e=.returned (.bool b)∧Zcz w' lo pc pt rb' sp'∧Zah (Zj7 pc rb) w w'∧∀g,rb'=some g→rb=some g∨w.heap.size≤g
theorem ZbX.same {lo pc pt:Nat}{rb:Option Nat}{sp:List (Nat×Nat)}{b:Bool}{w:World}{e:Ending}{w':World}(h:Zcz w lo pc pt rb sp)(he:e=.returned (.bool b))(hw:Ext w w'):ZbX lo pc pt rb sp b w e w':=⟨rb,he,h.ext hw,(Zah.refl _ w).ext hw,fun _ h=>.inl h⟩
theorem Zbq {α:Type}(l:List α):l=[]∨∃pre x,l=pre++[x]:=by
 rcases l.eq_nil_or_concat with rfl|⟨pre,x,e⟩
 ·exact .inl rfl
 ·exact .inr ⟨pre,x,by rw[e,List.concat_eq_append]⟩
theorem ZbW.st {d:Nat}{ways:List (List ByteArray)}{sp:List (Nat×Nat)}(h:ZbW d ways sp)(hne:sp≠[]):∃A B,CurSt d ways sp A B:=by
 rcases h with h|h
 ·exact absurd h hne
 ·exact h
theorem ZbJ.small {d:Nat}{ways:List (List ByteArray)}{pre:List (Nat×Nat)}{f t A B:Nat}(F:ZbJ d ways pre f t A B):t≤ways.length:=by
 have h1:=F.top
 have h2:=ZaY ways pre.length F.seg.top
 have h3:=Zib ways pre.length ways.length
 omega
section
variable {w:World} {lo pc pt d:Nat} {ways:List (List ByteArray)} {rb:Option Nat} {sp:List (Nat×Nat)}
theorem s_up (h:Zcz w lo pc pt rb sp):
  Calls Tryz.prog 139 #[.pointer (some ⟨pc,0,none⟩)] w (ZbX lo pc pt rb sp.dropLast (!sp.isEmpty) w):=by
 rcases Zbq sp with rfl|⟨pre,⟨f,t⟩,rfl⟩
 ·exact(ZrR pc pt lo rb w h).mono fun e w' ⟨h1,h2⟩=>ZbX.same h h1 (by rw[h2];exact Below.refl _ _)
 ·obtain⟨g,c,rfl,_⟩:=h.last
  rw[List.dropLast_concat]
  refine(c_up pc pt lo g pre f t w h).mono fun e w' ⟨h1,h2,h3⟩=>⟨some g,?_,h2,h3,fun _ h=>.inl h⟩
  rw[h1]
  simp
theorem Ztn (h:Zcz w lo pc pt rb sp)(hw:ZcE d ways)(hc:ZbW d ways sp)(hn:ways.length≤1000000):
  Calls Tryz.prog 162 #[.pointer (some ⟨pc,0,none⟩)] w (ZbX lo pc pt rb (Zno sp) (ZpE sp) w):=by
 rcases Zbq sp with rfl|⟨pre,⟨f,t⟩,rfl⟩
 ·exact(Zi7 pc pt lo rb [] w h (.inl rfl)).mono fun e w' ⟨h1,h2⟩=>ZbX.same h h1 h2
 ·rw[ZfJ,ZhK]
  by_cases hft:f=t
  ·rw[if_pos hft,if_pos hft]
   exact(Zi7 pc pt lo rb _ w h (.inr (by rw[Zbu,decide_eq_true hft]))).mono fun e w' ⟨h1,h2⟩=>ZbX.same h h1 h2
  ·rw[if_neg hft,if_neg hft]
   obtain⟨A,B,hs⟩:=hc.st (by simp)
   have F:=hs.facts hw pre f t rfl
   obtain⟨g,c,rfl,_⟩:=h.last
   exact(Ztl pc pt lo g pre f t w h (by have:=F.le;omega) (by have:=F.small;omega)).mono fun e w' ⟨h1,h2,h3⟩=>⟨some g,h1,h2,h3,fun _ h=>.inl h⟩
theorem Zq6 (x:ByteArray)(h:Zcz w lo pc pt rb sp)(ht:ZbV w pt d ways)(hw:ZcE d ways)(hc:ZbW d ways sp)(hn:ways.length≤1000000):
  Calls Tryz.prog 161 #[.pointer (some ⟨pc,0,none⟩),.string x] w (ZbX lo pc pt rb (Znp ways sp x) (ZpG ways sp x) w):=by
 rcases Zbq sp with rfl|⟨pre,⟨f,t⟩,rfl⟩
 ·exact(Zi8 pc pt lo rb [] x w h (.inl rfl)).mono fun e w' ⟨h1,h2⟩=>ZbX.same h h1 h2
 ·rw[Zen,ZfK]
  by_cases hft:f=t
  ·rw[if_pos hft,if_pos hft]
   exact(Zi8 pc pt lo rb _ x w h (.inr (by rw[Zbu,decide_eq_true hft]))).mono fun e w' ⟨h1,h2⟩=>ZbX.same h h1 h2
  ·rw[if_neg hft,if_neg hft]
   obtain⟨A,B,hs⟩:=hc.st (by simp)
   have F:=hs.facts hw pre f t rfl
   obtain⟨g,c,rfl,_⟩:=h.last
   exact(ZrS pc pt lo g d ways pre f t A B x w h ht hw F (by have:=F.le;omega) hn _ rfl).mono fun e w' ⟨h1,h2,h3⟩=>⟨some g,h1,h2,h3,fun _ h=>.inl h⟩
theorem Zto (h:Zcz w lo pc pt rb sp)(ht:ZbV w pt d ways)(hw:ZcE d ways)(hc:ZbW d ways sp)(hd:d≤64)(hn:ways.length≤1000000):
  Calls Tryz.prog 137 #[.pointer (some ⟨pc,0,none⟩)] w (ZbX lo pc pt rb (Znn d ways sp) (ZcS d ways sp) w):=by
 unfold Znn
 cases hm:ZcS d ways sp with
 |false=>
  rw[if_neg (by simp)]
  exact(Znm pc pt lo d ways rb sp w h ht hm).mono fun e w' ⟨h1,h2⟩=>ZbX.same h h1 h2
 |true=>
  rw[if_pos rfl]
  have hm2:=hm
  unfold ZcS at hm2
  simp only[Bool.and_eq_true,Bool.not_eq_true',decide_eq_false_iff_not] at hm2
  obtain⟨⟨m1,m2⟩,m3⟩:=hm2
  rcases Zbq sp with rfl|⟨pre,⟨f,t⟩,rfl⟩
  ·have hd0:0<d:=by
    rcases Nat.eq_zero_or_pos d with e|e
    ·exact absurd e.symm m2
    ·exact e
   exact(Zml pc pt lo d ways rb w h ht hd0 (by omega)).mono fun e w' ⟨h1,g,h2,h3,h4⟩=>⟨some g,h1,h2,h3,fun _ e=>by cases e;exact h4⟩
  ·obtain⟨A,B,hs⟩:=hc.st (by simp)
   have F:=hs.facts hw pre f t rfl
   obtain⟨g,c,rfl,_⟩:=h.last
   rw[Zbu] at m1
   have hft:f≠t:=by simpa using m1
   have hl:(pre++[(f,t)]).length=pre.length+1:=by simp
   rw[Zgh]
   exact(Ztm pc pt lo g d ways pre f t A B w h ht F (by have:=F.le;omega) (by have:=F.dep;omega) hd hn).mono fun e w' ⟨h1,g',h2,h3,h4⟩=>⟨some g',h1,h2,h3,fun _ e=>by cases e;exact h4⟩
end
theorem ZbW.opened {d:Nat}{ways:List (List ByteArray)}(hw:ZcE d ways){sp:List (Nat×Nat)}(h:ZbW d ways sp):ZbW d ways (Znn d ways sp):=by
 unfold Znn
 split
 ·rename_i hm
  exact h.open_ok hw hm
 ·exact h
theorem ZbW.upped {d:Nat}{ways:List (List ByteArray)}{sp:List (Nat×Nat)}(h:ZbW d ways sp):ZbW d ways sp.dropLast:=by
 rcases Zbq sp with rfl|⟨pre,s,rfl⟩
 ·exact .inl rfl
 ·rw[List.dropLast_concat]
  obtain⟨A,B,hs⟩:=h.st (by simp)
  rcases hs.pop pre s rfl with e|⟨pre0,f,t,A0,B0,_,_,h0,_⟩
  ·exact .inl e
  ·exact .inr ⟨A0,B0,h0⟩
theorem ZbW.nexted {d:Nat}{ways:List (List ByteArray)}(hw:ZcE d ways){sp:List (Nat×Nat)}(h:ZbW d ways sp):ZbW d ways (Zno sp):=by
 rcases Zbq sp with rfl|⟨pre,⟨f,t⟩,rfl⟩
 ·exact .inl rfl
 ·rw[ZfJ]
  split
  ·exact h
  ·rename_i hft
   obtain⟨A,B,hs⟩:=h.st (by simp)
   have F:=hs.facts hw pre f t rfl
   exact .inr ⟨A,B,hs.move pre f t (f+1) rfl (by have:=F.ge;omega) (by have:=F.le;omega)⟩
theorem ZbJ.seekIn {d:Nat}{ways:List (List ByteArray)}{pre:List (Nat×Nat)}{f t A B:Nat}(F:ZbJ d ways pre f t A B)(x:ByteArray):f≤skP (Zcc ways pre.length ways.length) f t x∧skP (Zcc ways pre.length ways.length) f t x≤t:=by
 have hb:=ZaY ways pre.length F.seg.top
 have:=Zi0 (ks:=Zcc ways pre.length ways.length) (f:=f) (t:=t) x F.le (by rw[ZcM];have:=F.top;omega)
 exact⟨this.1,this.2.1⟩
theorem ZbW.seeked {d:Nat}{ways:List (List ByteArray)}(hw:ZcE d ways){sp:List (Nat×Nat)}(h:ZbW d ways sp)(x:ByteArray):ZbW d ways (Znp ways sp x):=by
 rcases Zbq sp with rfl|⟨pre,⟨f,t⟩,rfl⟩
 ·exact .inl rfl
 ·rw[Zen]
  split
  ·exact h
  ·obtain⟨A,B,hs⟩:=h.st (by simp)
   have F:=hs.facts hw pre f t rfl
   obtain⟨s1,s2⟩:=F.seekIn x
   exact .inr ⟨A,B,hs.move pre f t _ rfl (by have:=F.ge;omega) s2⟩
