/- The document's Rows.Add where it adds (layer 3). -/
import Derived.Test.YtjfbjjmiobgjfaaGreatG16
import Derived.Test.YtjfbjjmiobgjfaaGreatG17
set_option maxRecDepth 100000
set_option maxHeartbeats 8000000
namespace Go.Proofs.YtjfbjjmiobgjfaaGreat
open ChangeShapes WideShapes ChangeAt RowKit
def DPut (w:World)(lo pb ar:Nat)(rs:List (List ByteArray))(e:Ending)(w':World):Prop:=
 e=.returned (.tuple #[.bool true,.int .i64 0])∧ZbH w' lo pb ar rs∧Zah (fun b=>b=pb) w w'∧∀t,Ty w pb t→Ty w' pb t
theorem Zax.append {lo:Nat}{W:World}{us vs:List Value}{rs qs:List (List ByteArray)}(h:Zax lo W us rs)(k:Zax lo W vs qs):Zax lo W (us++vs) (rs++qs):=by
 refine⟨by rw[List.length_append,List.length_append,h.1,k.1],fun i r v hr hv=>?_⟩
 have hl:=h.1
 by_cases hi:i<rs.length
 ·rw[List.getElem?_append_left hi] at hr
  rw[List.getElem?_append_left (by omega)] at hv
  exact h.2 i r v hr hv
 ·rw[List.getElem?_append_right (by omega)] at hr
  rw[List.getElem?_append_right (by omega),hl] at hv
  exact k.2 _ r v hr hv
theorem Zax.take {lo:Nat}{W:World}{us:List Value}{rs:List (List ByteArray)}(h:Zax lo W us rs)(K:Nat):Zax lo W (us.take K) (rs.take K):=by
 refine⟨by rw[List.length_take,List.length_take,h.1],fun i r v hr hv=>?_⟩
 rw[List.getElem?_take] at hr hv
 split at hr
 ·rename_i hi
  rw[if_pos hi] at hv
  exact h.2 i r v hr hv
 ·cases hr
theorem Zax.drop {lo:Nat}{W:World}{us:List Value}{rs:List (List ByteArray)}(h:Zax lo W us rs)(K:Nat):Zax lo W (us.drop K) (rs.drop K):=by
 refine⟨by rw[List.length_drop,List.length_drop,h.1],fun i r v hr hv=>?_⟩
 rw[List.getElem?_drop] at hr hv
 exact h.2 _ r v hr hv
theorem Zax.sing {lo:Nat}{W:World}{v:Value}{r:List ByteArray}(h:W.ownsRow lo 9 1 v r.length (r.map Value.string)):Zax lo W [v] [r]:=by
 refine⟨rfl,fun i x u hx hu=>?_⟩
 match i,hx,hu with
 |0,hx,hu=>cases hx;cases hu;exact h
 |i+1,hx,hu=>simp at hx
theorem Zrc {w:World}{lo pb n:Nat}{e:TypeId}{v u:Value}{xs:List Value}(h:w.ownsRow lo e 1 v n xs)(hlt:pb<lo):(w.setCell ⟨pb,1,none⟩ u).ownsRow lo e 1 v n xs:=by
 refine Zam h ?_ u
 rcases hb:v.ownBlock with _|b
 ·exact .inl rfl
 ·refine .inr fun e=>?_
  have h1:=(h.lt b hb).1
  injection e with e
  have e2:b=pb:=e
  omega
theorem Zit {w w5:World}{lo pb ar K L N rc c5:Nat}{ra a5:Option Addr}{vs:List Value}{rs:List (List ByteArray)}{t:List ByteArray}{vt:Value}(HR:ZbH w lo pb ar rs)(hlo:lo≤w.heap.size)(R1:Zax lo w vs rs)(hL:rs.length=L)(hK:K≤L)(hN:N=K+1+(L-K))(e5:Ext w w5)
  (k5:w5.cell? ⟨pb,1,none⟩=some (.slice ra L rc)) (f5:w5.frozen? ⟨pb,1,none⟩=false)
  (own5:w5.ownsRow w.heap.size 54 1 (.slice a5 N c5) N (vs.take K++[vt]++vs.drop K)) {n:Nat} (hn:t.length=n) (ownT:w5.ownsRow w.heap.size 9 1 vt n (t.map Value.string)):
  ZbH (w5.setCell ⟨pb,1,none⟩ (.slice a5 N c5)) lo pb ar (rs.take K++t::rs.drop K)∧Zah (fun b=>b=pb) w (w5.setCell ⟨pb,1,none⟩ (.slice a5 N c5))∧∀t,Ty w pb t→Ty (w5.setCell ⟨pb,1,none⟩ (.slice a5 N c5)) pb t:=by
 subst hn
 have hlt:=HR.lt
 have hlen:(rs.take K++t::rs.drop K).length=N:=by
  rw[List.length_append,List.length_cons,List.length_take,List.length_drop,hL];omega
 refine⟨⟨hlt,?_,?_,a5,c5,vs.take K++[vt]++vs.drop K,?_,?_,?_⟩,Zah.set (S:=fun b=>b=pb) (Zah.ext (Zah.refl _ w) e5) (.inl rfl) 1 _,fun t ht=>?_⟩
 ·rw[World.cell?_setCell_other _ _ _ _ (by simp)]
  exact Zac e5 HR.c0
 ·rw[World.frozen?_setCell];exact f5
 ·rw[hlen]
  exact World.cell?_setCell_same _ _ _ k5
 ·rw[hlen]
  exact Zrc (Zao own5 hlo) hlt
 ·have r5:Zax lo w5 vs rs:=⟨R1.1,fun i r v h1 h2=>Zar (R1.2 i r v h1 h2) e5⟩
  have q:Zax lo w5 (vs.take K++[vt]++vs.drop K) (rs.take K++[t]++rs.drop K):=(((r5.take K).append (Zax.sing (Zao ownT hlo))).append (r5.drop K))
  rw[List.append_assoc _ [t],List.singleton_append] at q
  exact⟨q.1,fun i r v h1 h2=>Zrc (q.2 i r v h1 h2) hlt⟩
 ·obtain⟨cs,q,hq⟩:=ht.ext e5
  obtain⟨cs1,h1⟩:=Zbk hq 1 (.slice a5 N c5)
  exact⟨cs1,q,h1⟩
theorem ZeL (w2:World)(v:Value)(t:TypeId):∀ad,some (⟨w2.heap.size,0,none⟩:Addr)=some ad→∀j u,[v][j]? =some u→(w2.alloc (.cells #[v] t)).cell? (ad.add j)=some u:=fun ad e j u hu=>by
 cases e
 match j,hu with
 |0,hu=>cases hu;rw[Addr.add_lit,World.cell?_alloc_new];rfl
 |j+1,hu=>simp at hu
theorem ZhP (lo pb ar:Nat)(rs:List (List ByteArray))(t:List ByteArray)(a:Option Addr)(n c:Nat)(w:World)(h:ZbH w lo pb ar rs)(har:ar≤64)(ht:Zai w a n t)(hc:a=none→n=0∧c=0)(hlo:lo≤w.heap.size)(hyes:Ziq ar rs t=true):
  Calls Tryz.prog 38 #[.pointer (some ⟨pb,0,none⟩),.slice a n c] w fun e w'=>DPut w lo pb ar (rs.take (Zhw rs t)++t::rs.drop (Zhw rs t)) e w':=by
 have HR:=zh h
 have c0:=h.c0
 have hlt:=h.lt
 obtain⟨ra,rc,vs,c1,o1,r1⟩:=h.row
 have hy:=hyes
 unfold Ziq at hy
 simp only[Bool.and_eq_true,decide_eq_true_eq,Bool.not_eq_true',decide_eq_false_iff_not] at hy
 obtain⟨⟨⟨y1,y2⟩,y3⟩,y4⟩:=hy
 have hIt:Zcp w ra rs.length rs:=Zax.itemsD o1 r1 (by unfold maxLen;omega)
 have hnil:=Zdc pb
 have hn:=ht.2.1
 have hn0:n≤64:=by omega
 have FD:Hid (∀q,Calls Tryz.prog 85 #[.pointer (some ⟨pb,0,none⟩),.slice a n c] (w.drewN q) fun e w'=>e=.returned (.int .i64 (Zcn rs t 0))∧∃q2,w'=(w.drewN q).drewN q2):=fun q=>Zlp rs t pb ra rs.length rc a n c _ (Zac (Zae zbr q) c1) (hIt.keep (Zae zbr q)) (ht.keep (Zae zbr q))
 have BL:Hid (∀q,Calls Tryz.prog 86 #[.pointer (some ⟨pb,0,none⟩),.slice a n c] (w.drewN q) fun e w'=>e=.returned (.int .i64 (Zhw rs t:Nat))∧∃q2,w'=(w.drewN q).drewN q2):=fun q=>Zr5 rs t pb ra rs.length rc a n c _ (Zac (Zae zbr q) c1) (hIt.keep (Zae zbr q)) (ht.keep (Zae zbr q))
 have TX:Hid (Calls Tryz.prog 84 #[.slice a n c] w fun e w'=>e=.returned (.bool true)∧∃q2,w'=w.drewN q2):=by
  have:=Zks t a n c w ht
  rw[y2] at this
  exact this
 have CP:Hid (∀w1,Ext w w1→Calls Tryz.prog 44 #[.slice a n c] w1 fun e w'=>∃a' c',e=.returned (.slice a' n c')∧w'.ownsRow w1.heap.size 9 1 (.slice a' n c') n (t.map Value.string)∧Ext w1 w'):=fun w1 e1=>Zlq t a n c w1 (ht.keep e1) (by omega) hc
 have C1:Hid (∀w1,Ext w w1→w1.cell? ⟨pb,1,none⟩=some (.slice ra rs.length rc)):=fun w1 e1=>Zac e1 c1
 obtain⟨K,hK⟩:∃K,Zhw rs t=K:=⟨_,rfl⟩
 have hKl:K≤rs.length:=by rw[←hK];exact Znx _ _
 rw[hK] at BL ⊢
 obtain⟨L,hL⟩:∃L,rs.length=L:=⟨_,rfl⟩
 obtain⟨F,hF⟩:∃F,Zcn rs t 0=F:=⟨_,rfl⟩
 have VL:Hid (vs.length=L):=by show _=_;rw[←hL];exact r1.1
 rw[hF] at FD y3
 rw[hL] at C1 hKl y4
 have hLi:decide ((65536:Int)≤(L:Int))=false:=by rw[decide_eq_false_iff_not];omega
 have hKi:(K:Int)≤(L:Int):=by omega
 have hF2:¬0≤F:=by omega
 subst y1
 have q1:((n:Int)==(n:Int))=true:=by simp
 rw[hn] at c0
 rw[hL] at o1
 have O1:=zh o1
 have R1:=zh r1
 have HL:=zh hL
 have HN:=zh hn
 have E0:Hid (∀q q2 q3,Ext w (((w.drewN q).drewN q2).drewN q3)):=fun q q2 q3=>Zae (Zae (Zae zbr q) q2) q3
 have E1:Hid (∀q,Ext w (w.drewN q)):=fun q=>Zae zbr q
 have src1:=ZgO o1
 have VLL:=VL.out
 obtain⟨i0,hinf,hz0,hz1,hz2⟩:=info_parts Zcu
 have hKrc:K≤rc:=by
  obtain⟨_,_,e,hle⟩:=Zag o1
  cases e
  omega
 have hKrcI:(K:Int)≤(rc:Int):=by omega
 have hLrc:L≤rc:=by
  obtain⟨_,_,e,hle⟩:=Zag o1
  cases e
  exact hle
 have hLrcI:(L:Int)≤(rc:Int):=by omega
 have F0:Hid (∀w1,Ext w w1→w1.frozen? ⟨pb,1,none⟩=false):=fun w1 e1=>by
  have hb:pb<w.heap.size:=by omega
  have:=e1.block pb hb
  rw[←HR.out.free]
  simp[World.frozen?,this]
 have N7:Hid ((vs.drop K).length=(L-K)*1):=by show _=_;rw[List.length_drop,VLL];omega
 have S7:Hid (∀w1,Ext w w1→∀ad,ra=some ad→∀ad',some (ad.add K)=some ad'→∀j u,(vs.drop K)[j]? =some u→w1.cell? (ad'.add j)=some u):=fun w1 e1 ad ha ad' ha' j u hu=>by
  cases ha'
  rw[List.getElem?_drop] at hu
  have:=(ZgO (Zar O1.out e1)) ad ha (K+j) u hu
  rw[←this]
  by_cases hK0:K=0 <;> by_cases hj0:j=0 <;> simp[Addr.add,hK0,hj0,Nat.add_assoc]
 have N1:Hid ((vs.take K).length=K*1):=by show _=_;rw[List.length_take,VLL];omega
 have S1:Hid (∀w1,Ext w w1→∀ad,ra=some ad→∀j u,(vs.take K)[j]? =some u→w1.cell? (ad.add j)=some u):=fun w1 e1 ad ha j u hu=>by
  rw[List.getElem?_take] at hu
  split at hu
  ·exact(ZgO (Zar O1.out e1)) ad ha j u hu
  ·cases hu
 have V1:Hid (∀u∈vs,u.oneCell'=true):=Zax.one R1.out
 have V2:Hid (∀u∈vs.take K,u.oneCell'=true):=fun u hu=>V1.out u (List.mem_of_mem_take hu)
 have B1:Hid (0+K≤maxLen):=by show _≤_;unfold maxLen;omega
 have B2:Hid ((0+K)*24≤140737488355328):=by show _≤_;omega
 have V7:Hid (∀u∈vs.drop K,u.oneCell'=true):=fun u hu=>V1.out u (List.mem_of_mem_drop hu)
 have B7:Hid (K+1+(L-K)≤maxLen):=by show _≤_;unfold maxLen;omega
 have B8:Hid ((K+1+(L-K))*24≤140737488355328):=by show _≤_;omega
 have NE:Hid ((9:TypeId)≠54):=by show _≠_;decide
 have B4:Hid (K+1≤maxLen):=by show _≤_;unfold maxLen;omega
 have B5:Hid ((K+1)*24≤140737488355328):=by show _≤_;omega
 have B3:Hid (∀w1,Ext w w1→w.heap.size≤w1.heap.size):=fun w1 e1=>e1.size
 have NO:Hid (∀w1:World,w1.ownsRow w.heap.size 54 1 (.slice none 0 0) 0 []):=fun w1=>World.ownsRow_nil _ _ _ _
 have Y4:=zh y4
 clear h ht hyes hL hF hK c1 y3 r1 o1 src1 hn VLL y4 hIt hn0 har y2
 cases ra with
 |none=>
  obtain⟨hL0,hr0⟩:L=0∧rc=0:=by
   rcases O1.out.2 with⟨e1,e2⟩|⟨g,c1,cur,e1,_⟩
   ·cases e1
    exact⟨rfl,rfl⟩
   ·cases e1
  subst hr0
  subst hL0
  obtain rfl:K=0:=by omega
  have Sz:Hid (∀w1:World,∀ad:Addr,none=some ad→∀j u,(vs.take 0)[j]? =some u→w1.cell? (ad.add j)=some u):=fun w1 ad h=>by cases h
  have Sy:Hid (∀w1:World,∀ad:Addr,none=some ad→∀j u,(vs.drop 0)[j]? =some u→w1.cell? (ad.add j)=some u):=fun w1 ad h=>by cases h
  go_enter Tryz.func38,Tryz.ntmps38
  go_wp2_with (first|(go_at_call 84;(with_reducible refine TX.out.mono ?_);rintro e w1 ⟨rfl,q2,rfl⟩)|(go_at_call 85;(with_reducible refine(FD.out _).mono ?_);rintro e w1 ⟨rfl,q3,rfl⟩;have h7:=C1.out _ (E1.out (q2+q3)))|(go_at_call 86;(with_reducible refine(BL.out _).mono ?_);rintro e w1 ⟨rfl,q4,rfl⟩;have h9:=C1.out _ (E1.out (q2+q3+q4)))|(go_at_call 44;(with_reducible refine(CP.out _ e1).mono ?_);rintro e w2 ⟨at2,ct2,rfl,own2,e2⟩)|(at_builtin;refine Zas rfl _ _ 50 rfl w.heap.size 54 i0 (.slice none 0 0) 1 24 Tryz.underlying50 hinf hz0 hz1 hz2 rfl (by decide) _ _ _ rfl (NO.out _) none 0 0 (vs.take 0) rfl (fun _=>⟨rfl,rfl⟩) N1.out (Sz.out _) V2.out B1.out B2.out (B3.out _ (E1.out _)) ?_;intro v1 w1 own1 g1;rw[Nat.zero_add,List.nil_append] at own1;obtain⟨a1,c1,rfl,_⟩:=Zag own1;have e1:Ext w w1:=Zaz (E1.out (q2+q3+q4)) g1 (by intro g e;cases e))|(at_builtin;(refine Zas rfl _ _ 50 rfl w.heap.size 54 i0 (.slice none 0 0) 1 24 Tryz.underlying50 hinf hz0 hz1 hz2 rfl (by decide) _ _ _ rfl (Zar own1 (Zab e2 _)) (some ⟨w2.heap.size,0,none⟩) 1 1 [.slice at2 n ct2] rfl (fun h=>by cases h) rfl (ZeL w2 _ _) (by intro u hu;cases List.mem_singleton.1 hu;rfl) B4.out B5.out (B3.out _ (Zab (Zaa e1 e2) _)) ?_);intro v3 w3 own3 g3;obtain⟨a3,c3,rfl,_⟩:=Zag own3;have e3:Ext w w3:=Zaz (Zab (Zaa e1 e2) _) g3 (fun g e=>(own1.lt g e).1);have k3:=C1.out _ e3)|(at_builtin;(refine Zas rfl _ _ 50 rfl w.heap.size 54 i0 (.slice none 0 0) 1 24 Tryz.underlying50 hinf hz0 hz1 hz2 rfl (by decide) _ _ _ rfl own3 none 0 0 (vs.drop 0) rfl (fun _=>⟨rfl,rfl⟩) N7.out (Sy.out _) V7.out B7.out B8.out (B3.out _ e3) ?_);intro v5 w5 own5 g5;obtain⟨a5,c5,rfl,_⟩:=Zag own5;have e5:Ext w w5:=Zaz e3 g5 (fun g e=>(own3.lt g e).1);have k5:=C1.out _ e5;have f5:=F0.out _ e5))
  go_returns
  have t3:w3.ownsRow w1.heap.size 9 1 (.slice at2 n ct2) n (t.map Value.string):=World.ownsRow.kept (own2.alloc (.cells #[.slice at2 n ct2] 54)) g3 (ZaK (own2.alloc (.cells #[.slice at2 n ct2] 54)) (Zar own1 (Zab e2 (.cells #[.slice at2 n ct2] 54))) NE.out)
  have t5:w5.ownsRow w1.heap.size 9 1 (.slice at2 n ct2) n (t.map Value.string):=t3.kept g5 (ZaK t3 own3 NE.out)
  have fin:=Zit HR.out hlo R1.out HL.out hKl (by omega) e5 k5 f5 own5 HN.out (Zao t5 e1.size)
  exact⟨rfl,fin.1,fin.2⟩
 |some ad=>
  have H0:Hid (some ad=none→K=0∧rc=0):=fun h=>by cases h
  by_cases hrK:rc=K
  ·have hLK:L=K:=by omega
   subst hrK
   subst hLK
   have N7z:Hid ((vs.drop L).length=0*1):=by show _=_;rw[N7.out];omega
   have ez:vs.drop L=[]:=List.eq_nil_of_length_eq_zero (by have:=N7z.out;omega)
   have S7z:Hid (∀w1:World,∀ad',some ad=some ad'→∀j u,(vs.drop L)[j]? =some u→w1.cell? (ad'.add j)=some u):=fun w1 ad' _ j u hu=>by rw[ez] at hu;cases hu
   have B7z:Hid (L+1+0≤maxLen):=B4.out
   have B8z:Hid ((L+1+0)*24≤140737488355328):=B5.out
   clear ez
   go_enter Tryz.func38,Tryz.ntmps38
   go_wp2_with (first|(go_at_call 84;(with_reducible refine TX.out.mono ?_);rintro e w1 ⟨rfl,q2,rfl⟩)|(go_at_call 85;(with_reducible refine(FD.out _).mono ?_);rintro e w1 ⟨rfl,q3,rfl⟩;have h7:=C1.out _ (E1.out (q2+q3)))|(go_at_call 86;(with_reducible refine(BL.out _).mono ?_);rintro e w1 ⟨rfl,q4,rfl⟩;have h9:=C1.out _ (E1.out (q2+q3+q4)))|(go_at_call 44;(with_reducible refine(CP.out _ e1).mono ?_);rintro e w2 ⟨at2,ct2,rfl,own2,e2⟩)|(at_builtin;refine Zas rfl _ _ 50 rfl w.heap.size 54 i0 (.slice none 0 0) 1 24 Tryz.underlying50 hinf hz0 hz1 hz2 rfl (by decide) _ _ _ rfl (NO.out _) (some ad) L L (vs.take L) rfl H0.out N1.out (S1.out _ (E1.out _)) V2.out B1.out B2.out (B3.out _ (E1.out _)) ?_;intro v1 w1 own1 g1;rw[Nat.zero_add,List.nil_append] at own1;obtain⟨a1,c1,rfl,_⟩:=Zag own1;have e1:Ext w w1:=Zaz (E1.out (q2+q3+q4)) g1 (by intro g e;cases e))|(at_builtin;(refine Zas rfl _ _ 50 rfl w.heap.size 54 i0 (.slice none 0 0) 1 24 Tryz.underlying50 hinf hz0 hz1 hz2 rfl (by decide) _ _ _ rfl (Zar own1 (Zab e2 _)) (some ⟨w2.heap.size,0,none⟩) 1 1 [.slice at2 n ct2] rfl (fun h=>by cases h) rfl (ZeL w2 _ _) (by intro u hu;cases List.mem_singleton.1 hu;rfl) B4.out B5.out (B3.out _ (Zab (Zaa e1 e2) _)) ?_);intro v3 w3 own3 g3;obtain⟨a3,c3,rfl,_⟩:=Zag own3;have e3:Ext w w3:=Zaz (Zab (Zaa e1 e2) _) g3 (fun g e=>(own1.lt g e).1);have k3:=C1.out _ e3)|(at_builtin;(refine Zas rfl _ _ 50 rfl w.heap.size 54 i0 (.slice none 0 0) 1 24 Tryz.underlying50 hinf hz0 hz1 hz2 rfl (by decide) _ _ _ rfl own3 (some ad) 0 0 (vs.drop L) rfl (fun h=>by cases h) N7z.out (S7z.out _) V7.out B7z.out B8z.out (B3.out _ e3) ?_);intro v5 w5 own5 g5;obtain⟨a5,c5,rfl,_⟩:=Zag own5;have e5:Ext w w5:=Zaz e3 g5 (fun g e=>(own3.lt g e).1);have k5:=C1.out _ e5;have f5:=F0.out _ e5))
   go_returns
   have t3:w3.ownsRow w1.heap.size 9 1 (.slice at2 n ct2) n (t.map Value.string):=World.ownsRow.kept (own2.alloc (.cells #[.slice at2 n ct2] 54)) g3 (ZaK (own2.alloc (.cells #[.slice at2 n ct2] 54)) (Zar own1 (Zab e2 (.cells #[.slice at2 n ct2] 54))) NE.out)
   have t5:w5.ownsRow w1.heap.size 9 1 (.slice at2 n ct2) n (t.map Value.string):=t3.kept g5 (ZaK t3 own3 NE.out)
   have fin:=Zit HR.out hlo R1.out HL.out hKl (by omega) e5 k5 f5 own5 HN.out (Zao t5 e1.size)
   exact⟨rfl,fin.1,fin.2⟩
  go_enter Tryz.func38,Tryz.ntmps38
  go_wp2_with (first|(go_at_call 84;(with_reducible refine TX.out.mono ?_);rintro e w1 ⟨rfl,q2,rfl⟩)|(go_at_call 85;(with_reducible refine(FD.out _).mono ?_);rintro e w1 ⟨rfl,q3,rfl⟩;have h7:=C1.out _ (E1.out (q2+q3)))|(go_at_call 86;(with_reducible refine(BL.out _).mono ?_);rintro e w1 ⟨rfl,q4,rfl⟩;have h9:=C1.out _ (E1.out (q2+q3+q4)))|(go_at_call 44;(with_reducible refine(CP.out _ e1).mono ?_);rintro e w2 ⟨at2,ct2,rfl,own2,e2⟩)|(at_builtin;refine Zas rfl _ _ 50 rfl w.heap.size 54 i0 (.slice none 0 0) 1 24 Tryz.underlying50 hinf hz0 hz1 hz2 rfl (by decide) _ _ _ rfl (NO.out _) (some ad) K rc (vs.take K) rfl H0.out N1.out (S1.out _ (E1.out _)) V2.out B1.out B2.out (B3.out _ (E1.out _)) ?_;intro v1 w1 own1 g1;rw[Nat.zero_add,List.nil_append] at own1;obtain⟨a1,c1,rfl,_⟩:=Zag own1;have e1:Ext w w1:=Zaz (E1.out (q2+q3+q4)) g1 (by intro g e;cases e))|(at_builtin;(refine Zas rfl _ _ 50 rfl w.heap.size 54 i0 (.slice none 0 0) 1 24 Tryz.underlying50 hinf hz0 hz1 hz2 rfl (by decide) _ _ _ rfl (Zar own1 (Zab e2 _)) (some ⟨w2.heap.size,0,none⟩) 1 1 [.slice at2 n ct2] rfl (fun h=>by cases h) rfl (ZeL w2 _ _) (by intro u hu;cases List.mem_singleton.1 hu;rfl) B4.out B5.out (B3.out _ (Zab (Zaa e1 e2) _)) ?_);intro v3 w3 own3 g3;obtain⟨a3,c3,rfl,_⟩:=Zag own3;have e3:Ext w w3:=Zaz (Zab (Zaa e1 e2) _) g3 (fun g e=>(own1.lt g e).1);have k3:=C1.out _ e3)|(at_builtin;(refine Zas rfl _ _ 50 rfl w.heap.size 54 i0 (.slice none 0 0) 1 24 Tryz.underlying50 hinf hz0 hz1 hz2 rfl (by decide) _ _ _ rfl own3 (some (ad.add K)) (L-K) (rc-K) (vs.drop K) rfl (fun h=>by cases h) N7.out (S7.out _ e3 ad rfl) V7.out B7.out B8.out (B3.out _ e3) ?_);intro v5 w5 own5 g5;obtain⟨a5,c5,rfl,_⟩:=Zag own5;have e5:Ext w w5:=Zaz e3 g5 (fun g e=>(own3.lt g e).1);have k5:=C1.out _ e5;have f5:=F0.out _ e5))
  go_returns
  have t3:w3.ownsRow w1.heap.size 9 1 (.slice at2 n ct2) n (t.map Value.string):=World.ownsRow.kept (own2.alloc (.cells #[.slice at2 n ct2] 54)) g3 (ZaK (own2.alloc (.cells #[.slice at2 n ct2] 54)) (Zar own1 (Zab e2 (.cells #[.slice at2 n ct2] 54))) NE.out)
  have t5:w5.ownsRow w1.heap.size 9 1 (.slice at2 n ct2) n (t.map Value.string):=t3.kept g5 (ZaK t3 own3 NE.out)
  have fin:=Zit HR.out hlo R1.out HL.out hKl rfl e5 k5 f5 own5 HN.out (Zao t5 e1.size)
  exact⟨rfl,fin.1,fin.2⟩
theorem Zr6 (pb:Nat)(ar:Int)(w:World)(h:w.cell? ⟨pb,0,none⟩=some (.int .i64 ar)):
  Calls Tryz.prog 16 #[.pointer (some ⟨pb,0,none⟩)] w fun e w'=>e=.returned (.int .i64 ar)∧w'=w:=by
 have hnil:=Zdc pb
 go_enter Tryz.func16,Tryz.ntmps16
 go_wp2
 go_returns
 exact⟨rfl,rfl⟩
def Zci (w w':World)(rs:List (List ByteArray))(v:Value):Prop:=∃us,w'.ownsRow w.heap.size 54 1 v rs.length us∧Zax w.heap.size w' us rs∧Ext w w'
theorem Zci.nil (w:World):Zci w w [] (.slice none 0 0):=⟨[],World.ownsRow_nil _ _ _ _,⟨rfl,fun i r v h=>by cases h⟩,Below.refl _ _⟩
theorem Zci.push {w x w2 w3:World}{o:Obj}{rs:List (List ByteArray)}{us:List Value}{v v' u:Value}{r:List ByteArray}(hE:Ext w x)(h1:x.ownsRow w.heap.size 54 1 v rs.length us)(h2:Zax w.heap.size x us rs)(e2:Ext x w2)(hu:w2.ownsRow x.heap.size 9 1 u r.length (r.map Value.string))(h3:w3.ownsRow w.heap.size 54 1 v' (rs.length+1) (us++[u]))(g3:(w2.alloc o).grownBy w3 v.ownBlock):Zci w w3 (rs++[r]) v':=by
 have e0:Ext x (w2.alloc o):=Zab e2 o
 have h1':=Zar h1 e0
 have kp:∀{b m:Nat} {z:Value} {xs:List Value},(w2.alloc o).ownsRow b 9 1 z m xs→w3.ownsRow b 9 1 z m xs:=fun hh=>hh.kept g3 (ZaK hh h1' (by decide))
 refine⟨us++[u],by rw[List.length_append];exact h3,?_,Zaz (Zaa hE e0) g3 (fun g e=>(h1.lt g e).1)⟩
 refine Zax.append ⟨h2.1,fun i r v a b=>kp (Zar (h2.2 i r v a b) e0)⟩ (Zax.sing (kp ?_))
 exact(Zao hu hE.size).alloc o
theorem Zny (lo pb ar:Nat)(rs:List (List ByteArray))(w:World)(h:ZbH w lo pb ar rs)(hn:rs.length≤1000000)(hr:∀r∈rs,r.length≤1000000):
  Calls Tryz.prog 14 #[.pointer (some ⟨pb,0,none⟩)] w fun e w'=>∃v,e=.returned v∧Zci w w' rs v:=by
 obtain⟨i0,hinf,hz0,hz1,hz2⟩:=info_parts Zcu
 obtain⟨ra,rc,vs,c1,o1,r1⟩:=h.row
 have HI:Hid (Zcp w ra rs.length rs):=Zax.itemsD o1 r1 (by unfold maxLen;omega)
 have C1:=zh c1
 have O1:=zh o1
 have R1:=zh r1
 have HR:=zh hr
 have hnil:=Zdc pb
 obtain⟨n,hnn⟩:∃n,rs.length=n:=⟨_,rfl⟩
 have HL:=zh hnn
 have hn0:n≤1000000:=by omega
 rw[hnn] at HI C1 O1
 clear h hn hr c1 o1 r1 hnn
 go_enter Tryz.func14,Tryz.ntmps14
 go_wp2
 go_loopw [3,4] (fun v i wj=>∃k:Nat,k≤n∧i=.int .i64 (k:Int)∧Zci w wj (rs.take k) v) (fun _ i _=>n-(intOf i).toNat)
 case atStart=>exact⟨0,by omega,rfl,Zci.nil w⟩
 case round=>
  obtain⟨k,hk,rfl,us,own,rat,hE⟩:=hrel
  have EW:=zh hE
  have RA:=zh rat
  have gi:=Zac hE C1.out
  have HLT:Hid ((rs.take k).length=k):=by show _=_;rw[List.length_take,HL.out];omega
  obtain⟨as1,cs,rfl,_⟩:=Zag own
  rw[HLT.out] at own ⊢
  have OW:=zh own
  clear hE rat own
  by_cases hlt:k<n
  ·have hki:(k:Int)<(n:Int):=by omega
   obtain⟨x,b1,o1,hx,rfl,h1⟩:=(HI.out.keep EW.out).2.at hlt
   have HX:=zh hx
   obtain⟨a2,n2,c2,g1,h2⟩:=h1
   rw[Nat.mul_one] at g1
   have hn2:n2≤1000000:=by have:=h2.2.1;have:=HR.out x (zmg hx);omega
   have HX2:=zh h2.2.1
   have HC:Hid (a2=none→n2=0∧c2=0):=by
    have hi:=(zgs hx).1
    obtain⟨v,hv⟩:∃v,vs[k]? =some v:=⟨_,zge (by have:=R1.out.1;omega)⟩
    have h5:=R1.out.2 k x v hx hv
    obtain⟨a',c',rfl,_⟩:=Zag h5
    have h6:=O1.out.cells (g:=b1)
    intro e
    rcases O1.out.2 with⟨e1,e2⟩|⟨g,cc,cur,e1,_⟩
    ·omega
    ·cases e1
     have h7:=O1.out.cells (g:=b1) rfl k _ hv
     rw[Addr.add_lit] at h7
     have h8:=Zac EW.out h7
     rw[g1] at h8
     cases h8
     exact(ZaF h5).2 e
   have CP:Hid (Calls Tryz.prog 44 #[.slice a2 n2 c2] wr fun e w'=>∃a' c',e=.returned (.slice a' n2 c')∧w'.ownsRow wr.heap.size 9 1 (.slice a' n2 c') n2 (x.map Value.string)∧Ext wr w'):=Zlq x a2 n2 c2 wr h2 (by omega) HC.out
   have B1:Hid (k+1≤maxLen):=by show _≤_;unfold maxLen;omega
   have B2:Hid ((k+1)*24≤140737488355328):=by show _≤_;omega
   have B3:Hid (∀w1,Ext wr w1→w.heap.size≤w1.heap.size):=fun w1 e1=>Nat.le_trans EW.out.size e1.size
   clear hx h2
   go_wp2_with (first|(go_at_call 44;(with_reducible refine CP.out.mono ?_);rintro e w2 ⟨at2,ct2,rfl,own2,e2⟩)|(at_builtin;(refine Zas rfl _ _ 50 rfl w.heap.size 54 i0 (.slice none 0 0) 1 24 Tryz.underlying50 hinf hz0 hz1 hz2 rfl (by decide) _ _ _ rfl (Zar OW.out (Zab e2 _)) (some ⟨w2.heap.size,0,none⟩) 1 1 [.slice at2 n2 ct2] rfl (fun h=>by cases h) rfl (ZeL w2 _ _) (by intro u hu;cases List.mem_singleton.1 hu;rfl) B1.out B2.out (B3.out _ (Zab e2 _)) ?_);intro v3 w3 own3 g3))
   go_roundw
   case rel=>exact⟨k+1,by omega,by go_num,by rw[ZaA HX.out];exact Zci.push EW.out (by rw[HLT.out];exact OW.out) RA.out e2 (by rw[HX2.out];exact own2) (by rw[HLT.out];exact own3) g3⟩
   case measure=>simp[intOf];omega
  ·obtain rfl:k=n:=by omega
   have hge:¬(k:Int)<(k:Int):=by omega
   go_wp2
   go_returns
   refine⟨_,rfl,us,?_,?_,EW.out⟩
   ·rw[HL.out];exact OW.out
   ·have tk:rs.take k=rs:=List.take_of_length_le (by have:=HL.out;omega)
    rw[←tk];exact RA.out
