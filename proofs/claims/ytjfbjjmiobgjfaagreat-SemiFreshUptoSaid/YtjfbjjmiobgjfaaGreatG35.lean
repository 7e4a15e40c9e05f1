/- The walk of the join's Head. -/
import Derived.Test.YtjfbjjmiobgjfaaGreatG28
import Derived.Test.YtjfbjjmiobgjfaaGreatG34
set_option maxRecDepth 100000
set_option maxHeartbeats 8000000
namespace Go.Proofs.YtjfbjjmiobgjfaaGreat
open ChangeShapes WideShapes ChangeAt RowKit
open K (ZaG Zda ZaQ Zaq Zbl ZaR Zbw Zcm)
def ZbF (names:List ByteArray)(x:List ByteArray)(out:List ByteArray)(t:ZaG):List ByteArray:=if t.kind=3 then out++[t.text] else if t.kind=1 then out++[gtB x (Zgu names t.text).toNat] else out
where gtB (x:List ByteArray) (v:Nat):ByteArray:=x[v]?.getD ⟨#[]⟩
def Zbj (r:ZaQ)(x:List ByteArray):List ByteArray:=r.head.terms.foldl (ZbF (Zad r) x) []
theorem Zqj {xs:List ByteArray}{t:ByteArray}(h:t∈xs):∃k:Nat,Zgu xs t=(k:Int)∧xs[k]? =some t:=ZgF h
theorem Zdy {r:ZaQ}(h:Zap r=0):r.head.terms.length≤64∧∀t∈r.head.terms,Zbz (Zad r) t false=true:=by
 unfold Zap at h
 split at h
 ·cases h
 ·rename_i h1
  split at h
  ·cases h
  ·split at h
   ·cases h
   ·rename_i h3
    refine⟨?_,fun t ht=>?_⟩
    ·have q:Zb7 r.head.terms=true:=by simpa using h1
     unfold Zb7 at q
     simp only[Bool.and_eq_true,decide_eq_true_eq] at q
     exact q.2.2
    ·by_cases q:Zbz (Zad r) t false=true
     ·exact q
     ·exact absurd (List.any_eq_true.2 ⟨t,ht,by unfold ZcP;simpa using q⟩) h3
def ZlM (r:ZaQ)(x:List ByteArray)(w:World)(e:Ending)(w':World):Prop:=∃a c,e=.returned (.tuple #[.slice a (Zbj r x).length c,.int .i64 0])∧Zai w' a (Zbj r x).length (Zbj r x)∧(a=none→(Zbj r x).length=0∧c=0)∧Ext w w'
theorem ZsA (r:ZaQ)(ah:Option Addr)(nh ch:Nat)(ab:Option Addr)(nb cb:Nat)(x:List ByteArray)(ax:Option Addr)(n cx:Nat)(w:World)(hr:ZaR w r ah nh ch ab nb cb)(hx:Zai w ax n x)(hn:(Zad r).length=n)(hvl:(Zad r).length≤1000000)(hchk:Zap r=0):
  Calls Tryz.prog 28 #[.agg #[.string r.head.pred,.slice ah nh ch,.slice ab nb cb],.slice ax n cx] w (ZlM r x w):=by
 obtain⟨i0,hi,hz0,hz1,hz2⟩:=info_parts ZbI
 have HR:=zh hr
 have HX:=zh hx
 have HN:=zh hn
 have HH:=zh (Zdy hchk)
 have HLH:=zh hr.terms.2.1
 have hnh:=hr.terms.1
 obtain⟨w1,hw1⟩:∃w1,w1=w.alloc (.cells #[.string r.head.pred,.slice ah nh ch,.slice ab nb cb] 27):=⟨_,rfl⟩
 have E1:Hid (Ext w w1):=by show Ext _ _;rw[hw1];exact Zab zbr _
 have C1:Hid (w1.cell? ⟨w.heap.size,0,none⟩=some (.string r.head.pred)∧w1.cell? ⟨w.heap.size,1,none⟩=some (.slice ah nh ch)∧w1.cell? ⟨w.heap.size,2,none⟩=some (.slice ab nb cb)):=by refine⟨?_,?_,?_⟩ <;> (rw [hw1];go_simp)
 have CK:Hid (∀w2,Ext w1 w2→Calls Tryz.prog 23 #[.agg #[.string r.head.pred,.slice ah nh ch,.slice ab nb cb]] w2 fun e w'=>e=.returned (.int .i64 0)∧Ext w2 w'):=fun w2 e=>by
  have:=Zio r ah nh ch ab nb cb w2 (HR.out.keep (Zaa E1.out e)) hvl
  unfold Zb5 at this
  rw[hchk] at this
  exact this
 have VR:Hid (Calls Tryz.prog 57 #[.agg #[.string r.head.pred,.slice ah nh ch,.slice ab nb cb]] w1 (Zin (Zad r) w1)):=Znu r ah nh ch ab nb cb w1 (HR.out.keep E1.out) hvl
 have hnn:((n:Int) != (n:Int))=false:=by simp
 rw[hw1] at VR
 clear hr hx hchk
 go_enter Tryz.func28,Tryz.ntmps28
 go_wp2_with (first
  |(go_at_call 57;(with_reducible refine VR.out.mono ?_);rintro e w3 ⟨av,cv,rfl,sv,nv,ov,e3⟩;rw[←hw1] at e3;rw[hn] at sv nv ov;rw[hn];have k0:=Zac e3 C1.out.1;have k1:=Zac e3 C1.out.2.1;have k2:=Zac e3 C1.out.2.2)
  |(go_at_call 23;(with_reducible refine(CK.out _ e3).mono ?_);rintro e w4 ⟨rfl,e4⟩;have m1:=Zac e4 k1))
 have EW4:Hid (Ext w w4):=Zaa E1.out (Zaa e3 e4)
 have SV:=zh (sv.keep e4)
 have HXW:=zh (HX.out.keep EW4.out)
 have HNN:=zh (show n≤1000000 by rw[←hn];exact hvl)
 clear e3 e4 k0 k1 k2 m1 sv nv ov hw1 CK VR hnn hvl C1
 have hnx:x.length=n:=HX.out.2.1
 have HXL:=zh hnx
 clear hnx hn
 have hn1:n≤9223372036854775807:=HX.out.1
 go_loopw [7,26] (fun v u wj=>∃k:Nat,k≤nh∧u=.int .i64 k∧Ext w4 wj∧∃out:List ByteArray,out=(r.head.terms.take k).foldl (ZbF (Zad r) x) []∧out.length≤k∧wj.ownsRow w4.heap.size 9 1 v out.length (out.map Value.string)) (fun _ u _=>nh-(intOf u).toNat)
 case atStart=>exact⟨0,by omega,rfl,Below.refl _ _,[],by simp,by simp,World.ownsRow_nil _ _ _ _⟩
 case round=>
  obtain⟨k,hk,rfl,hE,out,hout,hol,hown⟩:=hrel
  obtain⟨a3,c3,hv3,_⟩:=Zag hown
  subst hv3
  have HOUT:=zh hout
  have HE:=zh hE
  have OW:=zh hown
  clear hout hE hown
  have hl64:=HH.out.1
  have HZ:Hid (w4.heap.size≤wr.heap.size):=HE.out.size
  by_cases hlt:k<nh
  ·have hki:(k:Int)<(nh:Int):=by omega
   have hnh64:nh≤64:=by have:=HLH.out;omega
   obtain⟨t,bt,ot,hx,rfl,hc1,hc2,hc3⟩:=(HR.out.terms.keep (Zaa EW4.out HE.out)).2.at hlt
   have HTK:Hid ((r.head.terms.take (k+1)).foldl (ZbF (Zad r) x) []=ZbF (Zad r) x out t):=by
    show _=_
    rw[ZaA hx,List.foldl_append,←HOUT.out]
    rfl
   have HSF:=zh (HH.out.2 t (zmg hx))
   clear hx
   have EA:Hid (∀o,Ext wr (wr.alloc o)):=fun o=>Zab zbr o
   obtain⟨b3,e3⟩:∃b,(t.kind==3)=b:=⟨_,rfl⟩
   obtain⟨b1,e1⟩:∃b,(t.kind==1)=b:=⟨_,rfl⟩
   have K3:Hid ((t.kind=3)↔b3=true):=by show _↔_;rw[←e3];simp
   have K1:Hid ((t.kind=1)↔b1=true):=by show _↔_;rw[←e1];simp
   cases b3 with
   |true=>
    have HQ:Hid (ZbF (Zad r) x out t=out++[t.text]):=by show _=_;unfold ZbF;rw[if_pos (K3.out.2 rfl)]
    go_wp2_with (at_builtin;go_loud (refine wpList_append_lies _ rfl _ _ 54 rfl w4.heap.size 9 i0 (.string ⟨#[]⟩) 1 16 Tryz.underlying54 hi hz0 hz1 hz2 rfl (by decide) _ out.length (out.map Value.string) rfl (Zar OW.out (Zab (Zab zbr _) _)) ⟨wr.heap.size+1,0,none⟩ 1 1 [.string t.text] rfl rfl (by have:=Zgt (wr.alloc (.cells #[.int .i64 t.kind,.string t.text] 64)) (.string t.text) 9;simpa using this) (fun x hx=>by cases List.mem_singleton.1 hx;rfl) (Nat.zero_lt_one) (by unfold maxLen;omega) (by omega) (Nat.le_trans HZ.out (Zab (Zab zbr _) _).size) _ rfl ?_);intro g7 p7 w7 own7 q7 hat7 hlt7)
    go_roundw
    case rel=>
     exact⟨k+1,by omega,by go_num,Zaz (Zaa HE.out (Zab (Zab zbr _) _)) q7 (fun g hg=>(OW.out.lt g hg).1),out++[t.text],by rw[HTK.out,HQ.out],by simp;omega,by rw[List.length_append,List.map_append];exact own7⟩
    case measure=>simp[intOf];omega
   |false=>
    cases b1 with
    |false=>
     have HQ:Hid (ZbF (Zad r) x out t=out):=by show _=_;unfold ZbF;rw[if_neg (fun h=>absurd (K3.out.1 h) (by simp)),if_neg (fun h=>absurd (K1.out.1 h) (by simp))]
     go_wp2
     go_roundw
     case rel=>exact⟨k+1,by omega,by go_num,Zaa HE.out (EA.out _),out,by rw[HTK.out,HQ.out],by omega,Zar OW.out (EA.out _)⟩
     case measure=>simp[intOf];omega
    |true=>
     have hmem:t.text∈Zad r:=by
      have q:=HSF.out
      unfold Zbz at q
      have k1:=K1.out.2 rfl
      rw[if_neg (by omega),if_neg (by omega)] at q
      exact of_decide_eq_true q
     obtain⟨kx,hkx,hkt⟩:=Zqj hmem
     have hkl:kx<n:=by have:=(zgs hkt).1;rw[HN.out] at this;exact this
     obtain⟨y,b9,o9,hy,hb9,hy2⟩:=(HXW.out.keep HE.out).2.at (i:=kx) hkl
     subst hb9
     rw[Nat.mul_one] at hy2
     have yc:=fun o=>Zac (EA.out o) (show wr.cell? ⟨b9,o9+kx,none⟩=some (.string y) from hy2)
     have HQ:Hid (ZbF (Zad r) x out t=out++[y]):=by
      show _=_
      unfold ZbF
      rw[if_neg (fun h=>absurd (K3.out.1 h) (by simp)),if_pos (K1.out.2 rfl),hkx]
      unfold ZbF.gtB
      rw[show ((kx:Nat):Int).toNat=kx by omega,hy]
      rfl
     have IX:Hid (∀o,Calls Tryz.prog 66 #[.slice av n cv,.string t.text] (wr.alloc o) fun e w'=>e=.returned (.int .i64 (kx:Nat))∧w'=wr.alloc o):=fun o=>by
      have:=Ziu (Zad r) t.text av n cv (wr.alloc o) (SV.out.keep (Zaa HE.out (EA.out o)))
      rw[hkx] at this
      exact this
     have hkr:(kx:Int)<(n:Int):=by omega
     clear hkt hy hy2 hkx hmem
     go_wp2_with (first
      |(go_at_call 66;(with_reducible refine(IX.out _).mono ?_);rintro e w2 ⟨rfl,hw2⟩;obtain rfl:=hw2.symm)
      |(at_builtin;go_loud (refine wpList_append_lies _ rfl _ _ 54 rfl w4.heap.size 9 i0 (.string ⟨#[]⟩) 1 16 Tryz.underlying54 hi hz0 hz1 hz2 rfl (by decide) _ out.length (out.map Value.string) rfl (Zar OW.out (Zab (Zab zbr _) _)) ⟨wr.heap.size+1,0,none⟩ 1 1 [.string y] rfl rfl (by have:=Zgt (wr.alloc (.cells #[.int .i64 t.kind,.string t.text] 64)) (.string y) 9;simpa using this) (fun x hx=>by cases List.mem_singleton.1 hx;rfl) (Nat.zero_lt_one) (by unfold maxLen;omega) (by omega) (Nat.le_trans HZ.out (Zab (Zab zbr _) _).size) _ rfl ?_);intro g7 p7 w7 own7 q7 hat7 hlt7))
     go_roundw
     case rel=>
      exact⟨k+1,by omega,by go_num,Zaz (Zaa HE.out (Zab (Zab zbr _) _)) q7 (fun g hg=>(OW.out.lt g hg).1),out++[y],by rw[HTK.out,HQ.out],by simp;omega,by rw[List.length_append,List.map_append];exact own7⟩
     case measure=>simp[intOf];omega
  ·obtain rfl:k=nh:=by omega
   have hge:¬(k:Int)<(k:Int):=by omega
   have hfull:out=Zbj r x:=by
    rw[HOUT.out,List.take_of_length_le (by have:=HLH.out;omega)]
    rfl
   subst hfull
   have CL:=zh (Zko a3 (Zbj r x).length c3 wr (ZaF OW.out).1 (fun h=>((ZaF OW.out).2 h).2))
   go_wp2_with (go_at_call 67;(with_reducible refine CL.out.mono ?_);rintro e w2 ⟨rfl,hw2⟩;obtain rfl:=hw2.symm)
   go_ret2
   exact⟨a3,_,rfl,ZaL OW.out (Za4 OW.out).1,fun h=>⟨((ZaF OW.out).2 h).1,((ZaF OW.out).2 h).1⟩,Zaa EW4.out HE.out⟩
open K (ZaG Zda ZaQ)
theorem ZcX (xs:List ByteArray):ZaP xs=true↔∀x∈xs,x.size≤4096:=by
 unfold ZaP
 rw[Bool.not_eq_true',List.any_eq_false]
 constructor
 ·intro h x hx
  have:=h x hx
  simp at this
  omega
 ·intro h x hx
  have:=h x hx
  simp
  omega
theorem ZlN {q:List ByteArray}(h:ZaP q=true)(i:Nat):(gt q i).size≤4096:=by
 unfold gt
 cases hq:q[i]? with
 |none=>show (ByteArray.mk #[]).size≤4096;decide
 |some y=>exact(ZcX q).1 h y (zmg hq)
def Zec (names:List ByteArray)(ts:List ZaG)(q y:List ByteArray):Prop:=q.length=ts.length∧ZhE ts q=true∧ZkF names ts (ZaC names ts) q=y
theorem Zqk (names:List ByteArray)(ts:List ZaG)(y:List ByteArray):∀(rs acc:List (List ByteArray)),Zbs (ZaC names ts).length acc→acc.length+rs.length≤65536→(∀q∈rs,ZaP q=true)→(y∈rs.foldl (ZbC names ts) acc↔y∈acc∨∃q∈rs,Zec names ts q y):=by
 intro rs
 induction rs with
 |nil=>intro acc _ _ _;simp
 |cons q rs ih=>
  intro acc ha hl hr
  rw[List.length_cons] at hl
  have hrs:∀q∈rs,ZaP q=true:=fun x hx=>hr x (by simp[hx])
  rw[List.foldl_cons]
  by_cases hc:q.length=ts.length∧ZhE ts q=true
  ·have he:Za5 (ZaC names ts).length acc (ZkF names ts (ZaC names ts) q)=0:=by
    unfold Za5
    rw[if_neg (by unfold ZkF;simp),if_neg,if_neg (by omega)]
    have:ZaP (ZkF names ts (ZaC names ts) q)=true:=(ZcX _).2 fun x hx=>by
     unfold ZkF at hx
     obtain⟨v,_,rfl⟩:=List.mem_map.1 hx
     exact ZlN (hr q (by simp)) _
    simp[this]
   have hs:ZbC names ts acc q=ZaO acc (ZkF names ts (ZaC names ts) q):=by
    unfold ZbC
    rw[if_pos hc]
    unfold ZbY
    rw[if_pos he]
   have hok:Zbs (ZaC names ts).length (ZbC names ts acc q):=by
    unfold ZbC
    rw[if_pos hc]
    exact ha.add _
   have hlen:(ZbC names ts acc q).length≤acc.length+1:=by
    rw[hs]
    exact Zh3 _ _
   rw[ih _ hok (by omega) hrs,hs,Zes ha.up]
   constructor
   ·rintro ((rfl|h)|⟨q',h1,h2⟩)
    ·exact .inr ⟨q,by simp,hc.1,hc.2,rfl⟩
    ·exact .inl h
    ·exact .inr ⟨q',by simp[h1],h2⟩
   ·rintro (h|⟨q',h1,h2⟩)
    ·exact .inl (.inr h)
    ·rcases List.mem_cons.1 h1 with rfl|h1
     ·exact .inl (.inl h2.2.2.symm)
     ·exact .inr ⟨q',h1,h2⟩
  ·have hs:ZbC names ts acc q=acc:=by
    unfold ZbC
    rw[if_neg hc]
   rw[hs,ih _ ha (by omega) hrs]
   constructor
   ·rintro (h|⟨q',h1,h2⟩)
    ·exact .inl h
    ·exact .inr ⟨q',by simp[h1],h2⟩
   ·rintro (h|⟨q',h1,h2⟩)
    ·exact .inl h
    ·rcases List.mem_cons.1 h1 with rfl|h1
     ·exact absurd ⟨h2.1,h2.2.1⟩ hc
     ·exact .inr ⟨q',h1,h2⟩
def Zfp (f:ZaT):Prop:=∀k x,f k=some x→Zbs x.2.1 x.2.2
theorem Zfp.rows {f:ZaT}(h:Zfp f)(k:ByteArray):(Zan f k).length≤65536∧∀q∈Zan f k,ZaP q=true:=by
 unfold Zan
 cases hf:f k with
 |none=>exact⟨by simp,by simp⟩
 |some x=>exact⟨(h k x hf).few,fun q hq=>((h k x hf).row q hq).2⟩
theorem Zed {f:ZaT}(hf:Zfp f)(names:List ByteArray)(l:K.Lit)(h64:(ZaC names l.atom.terms).length≤64)(y:List ByteArray):y∈ZcR names f l↔∃q∈Zan f l.atom.pred,Zec names l.atom.terms q y:=by
 obtain⟨h1,h2⟩:=hf.rows l.atom.pred
 have:=Zqk names l.atom.terms y (Zan f l.atom.pred) [] (Zbs.nil h64) (by simpa using h1) h2
 unfold ZcR Zbv
 rw[this]
 simp
def Zhb (r:ZaQ)(x:List ByteArray)(t:ZaG):ByteArray:=if t.kind=3 then t.text else gt x (Zgu (Zad r) t.text).toNat
theorem ZmR {r:ZaQ}(h:Zap r=0)(ha:r.head.terms.any Zlt=false){t:ZaG}(ht:t∈r.head.terms):t.kind=3∨(t.kind=1∧t.text∈Zad r):=by
 have hs:=(Zdy h).2 t ht
 have hk:¬4≤t.kind:=fun q=>by
  have:=List.any_eq_false.1 ha t ht
  exact this (decide_eq_true q)
 have ho:Zb7 r.head.terms=true:=by
  unfold Zap at h
  split at h
  ·cases h
  ·rename_i h1;simpa using h1
 unfold Zb7 at ho
 rw[Bool.and_eq_true] at ho
 have h1:¬(Znc t=true):=List.any_eq_false.1 (by simpa using ho.1) t ht
 unfold Znc at h1
 simp only[Bool.or_eq_true,decide_eq_true_eq,not_or] at h1
 unfold Zbz at hs
 split at hs
 ·cases hs
 ·rename_i h2
  split at hs
  ·rename_i h3
   rcases h3 with h3|h3
   ·exact .inl h3
   ·omega
  ·rename_i h3
   exact .inr ⟨by omega,of_decide_eq_true hs⟩
theorem Zev {r:ZaQ}(h:Zap r=0)(ha:r.head.terms.any Zlt=false)(x:List ByteArray):Zbj r x=r.head.terms.map (Zhb r x):=by
 unfold Zbj
 suffices ∀(ts:List ZaG) (out:List ByteArray),(∀t∈ts,t∈r.head.terms)→ts.foldl (ZbF (Zad r) x) out=out++ts.map (Zhb r x) by simpa using this r.head.terms [] (fun _ h=>h)
 intro ts
 induction ts with
 |nil=>intro out _;simp
 |cons t ts ih=>
  intro out hts
  rw[List.foldl_cons,ih _ (fun t' h'=>hts t' (by simp[h']))]
  have:ZbF (Zad r) x out t=out++[Zhb r x t]:=by
   unfold ZbF Zhb
   rcases ZmR h ha (hts t (by simp)) with hk|⟨hk,_⟩
   ·rw[if_pos hk,if_pos hk]
   ·rw[if_neg (by omega),if_pos hk,if_neg (by omega)]
    rfl
  rw[this]
  simp
def ZlO (σ:ByteArray→ByteArray)(ts:List ZaG)(q:List ByteArray):Prop:=q.length=ts.length∧∀j t,ts[j]? =some t→(t.kind=3→gt q j=t.text)∧(t.kind=1→gt q j=σ t.text)
def sig (names x:List ByteArray)(v:ByteArray):ByteArray:=gt x (Zgu names v).toNat
theorem ZsB {names:List ByteArray}(hn:names.Nodup){v:Nat}(hv:v<names.length):Zgu names (gt names v)=(v:Int):=by
 refine Zkv (Zoq hv) fun j y hj hy e=>?_
 have hjl:=(zgs hy).1
 have q:=List.pairwise_iff_getElem.1 hn j v hjl hv hj
 have h1:=Zoq hv
 rw[zge hv] at h1
 rw[zge hjl] at hy
 exact q ((Option.some.inj hy).trans (e.symm.trans (Option.some.inj h1).symm))
theorem ZkK {t:ZaG}(h:t.kind=1):Zf2 t.text=t:=by
 obtain⟨k,s⟩:=t
 cases h
 rfl
theorem Zow (ts:List ZaG)(q:List ByteArray):ZhE ts q=true↔∀j t,ts[j]? =some t→(t.kind=3→gt q j=t.text)∧(t.kind=1→gt q (Zg5 ts t).toNat=gt q j):=by
 unfold ZhE
 rw[List.all_eq_true]
 constructor
 ·intro h j t ht
  have hj:=(zgs ht).1
  have:=h j (List.mem_range.2 hj)
  unfold Zf3 at this
  rw[ht] at this
  simp only[Bool.not_eq_true',Bool.or_eq_false_iff,Bool.and_eq_false_iff,decide_eq_false_iff_not,Bool.not_eq_false',decide_eq_true_eq] at this
  exact⟨fun h3=>this.1.resolve_left (fun n=>n h3),fun h1=>this.2.resolve_left (fun n=>n h1)⟩
 ·intro h j hj
  unfold Zf3
  cases ht:ts[j]? with
  |none=>rfl
  |some t=>
   obtain⟨h3,h1⟩:=h j t ht
   simp only[Bool.not_eq_true',Bool.or_eq_false_iff,Bool.and_eq_false_iff,decide_eq_false_iff_not,Bool.not_eq_false',decide_eq_true_eq]
   exact⟨by by_cases k:t.kind=3;exact .inr (h3 k);exact .inl k,by by_cases k:t.kind=1;exact .inr (h1 k);exact .inl k⟩
theorem ZcY {names:List ByteArray}(hn:names.Nodup){ts:List ZaG}(hv:∀t∈ts,t.kind=1→t.text∈names)(x q:List ByteArray):Zec names ts q ((ZaC names ts).map (gt x))↔ZlO (sig names x) ts q:=by
 unfold Zec ZlO
 rw[Zow]
 have hout:ZkF names ts (ZaC names ts) q=(ZaC names ts).map (gt x)↔∀v∈ZaC names ts,gt q (Zg5 ts (Zf2 (gt names v))).toNat=gt x v:=by
  unfold ZkF
  exact List.map_inj_left
 rw[hout]
 constructor
 ·rintro⟨h1,h2,h3⟩
  refine⟨h1,fun j t ht=>⟨(h2 j t ht).1,fun hk=>?_⟩⟩
  have htm:=zmg ht
  obtain⟨k,hk1,hk2⟩:=ZgF (hv t htm hk)
  have hkl:=(zgs hk2).1
  have hg:gt names k=t.text:=by unfold gt;rw[hk2];rfl
  have hmv:k∈ZaC names ts:=ZbT.2 ⟨hkl,by rw[hg,ZkK hk];exact htm⟩
  have:=h3 k hmv
  rw[hg,ZkK hk] at this
  rw[←(h2 j t ht).2 hk,this]
  unfold sig
  rw[hk1]
  rfl
 ·rintro⟨h1,h2⟩
  have key:∀t∈ts,t.kind=1→gt q (Zg5 ts t).toNat=sig names x t.text:=fun t ht hk=>by
   obtain⟨k,e1,e2⟩:=ZgE ht
   rw[e1]
   exact(h2 k t e2).2 hk
  refine⟨h1,fun j t ht=>⟨(h2 j t ht).1,fun hk=>?_⟩,fun v hvm=>?_⟩
  ·rw[key t (zmg ht) hk,(h2 j t ht).2 hk]
  ·obtain⟨hvl,hvt⟩:=ZbT.1 hvm
   rw[key _ hvt rfl]
   unfold sig
   rw[show (Zf2 (gt names v)).text=gt names v from rfl,ZsB hn hvl]
   rfl
theorem Zfq {names x:List ByteArray}(hn:names.Nodup)(hl:names.length=x.length){t:ByteArray}(ht:t∈names):ZbM names x t=some (sig names x t):=by
 obtain⟨k,hk1,hk2⟩:=ZgF ht
 have hkl:=(zgs hk2).1
 have hx:x[k]? =some (sig names x t):=by
  unfold sig gt
  rw[hk1,Int.toNat_natCast,zge (by omega)]
  rfl
 refine ZgC (fun hm=>?_) hk2 hx
 obtain⟨j,hj⟩:=List.mem_iff_getElem?.1 hm
 have hjl:=(zgs hj).1
 rw[List.length_take] at hjl
 rw[List.getElem?_take,if_pos (by omega)] at hj
 obtain⟨p1,e1⟩:=zgs hj
 obtain⟨p2,e2⟩:=zgs hk2
 exact List.pairwise_iff_getElem.1 hn j k p1 p2 (by omega) (e1.trans e2.symm)
theorem Zox {names x:List ByteArray}(hn:names.Nodup)(hl:names.length=x.length){ts:List ZaG}(hv:∀t∈ts,t.kind=1→t.text∈names)(q:List ByteArray)(hq:q.length=ts.length):(∀p∈ts.zip q,OkP names x p)↔ZlO (sig names x) ts q:=by
 constructor
 ·intro h
  refine⟨hq,fun j t ht=>?_⟩
  have hj:=(zgs ht).1
  have hqj:q[j]? =some (gt q j):=by unfold gt;rw[zge (by omega)];rfl
  have hp:=h (t,gt q j) (zmg (i:=j) (by rw[List.getElem?_zip_eq_some];exact⟨ht,hqj⟩))
  refine⟨fun k=>(hp.1 k).symm,fun k=>?_⟩
  have:=hp.2 k
  rw[Zfq hn hl (hv t (zmg ht) k)] at this
  exact(Option.some.inj this).symm
 ·rintro⟨_,h⟩ ⟨t,y⟩ hp
  obtain⟨j,hj⟩:=List.mem_iff_getElem?.1 hp
  rw[List.getElem?_zip_eq_some] at hj
  obtain⟨h3,h1⟩:=h j t hj.1
  have hy:gt q j=y:=by unfold gt;rw[hj.2];rfl
  rw[hy] at h3 h1
  exact⟨fun k=>(h3 k).symm,fun k=>by
   show ZbM names x t.text=some y
   rw[Zfq hn hl (hv t (zmg hj.1) k),h1 k]⟩
theorem Zfr {names:List ByteArray}:∀{ts:List ZaG},(∀t∈ts,t.kind=1→t.text∈names)→ts.foldl (Zak 1) names=names
 |[],_=>rfl
 |t::ts,h=>by
  have:Zak 1 names t=names:=by unfold Zak;rw[if_neg (fun q=>q.2.2 (h t (by simp) q.2.1))]
  rw[List.foldl_cons,this]
  exact Zfr fun u hu=>h u (List.mem_cons_of_mem _ hu)
theorem Zfs {names x:List ByteArray}(hn:names.Nodup)(hl:names.length=x.length){ts:List ZaG}(hv:∀t∈ts,t.kind=1→t.text∈names)(q:List ByteArray)(hq:q.length=ts.length):(Zbh ts q names x).isSome=true↔ZlO (sig names x) ts q:=by
 rw[←Zox hn hl hv q hq]
 constructor
 ·intro h
  obtain⟨f,hf⟩:=Option.isSome_iff_exists.1 h
  obtain⟨f1,⟨b,f2⟩,f3,f4⟩:=Zdd _ _ _ _ _ hq hl hf
  rw[Zfr hv] at f1
  have:b=[]:=by
   rw[f1,f2,List.length_append] at f3
   exact List.eq_nil_of_length_eq_zero (by omega)
  subst this
  rw[List.append_nil] at f2
  rw[f1,f2] at f4
  exact f4
 ·intro h
  have:=Zg1 ts q names x [] hq hl (by rw[Zfr hv,List.append_nil];exact hl) (by rw[Zfr hv,List.append_nil];exact h)
  rw[this]
  rfl
