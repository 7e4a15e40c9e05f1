/- The walks of the document's names, bound (layer 14). -/
import Derived.Test.YtjfbjjmiobgjfaaGreatG14
set_option maxRecDepth 100000
set_option maxHeartbeats 8000000
namespace Go.Proofs.YtjfbjjmiobgjfaaGreat
open ChangeShapes WideShapes ChangeAt RowKit
open K (ZaG Zda ZaQ Zaq Zbl ZaR Zbw Zcm)
theorem Zip (r:ZaQ)(ah:Option Addr)(nh ch:Nat)(ab:Option Addr)(nb cb:Nat)(w:World)(hr:ZaR w r ah nh ch ab nb cb)(hv:(Zad r).length≤1000000):
  Calls Tryz.prog 46 #[.agg #[.string r.head.pred,.slice ah nh ch,.slice ab nb cb]] w fun e w'=>∃v,e=.returned v∧ZdM w w' (Zad r) v:=by
 obtain⟨i0,hi,hz0,hz1,hz2⟩:=info_parts ZbI
 have HR:=zh hr
 have HLB:=zh hr.body.2.1
 have HV:=zh hv
 have hn:=hr.body.1
 obtain⟨w1,hw1⟩:∃w1,w1=w.alloc (.cells #[.string r.head.pred,.slice ah nh ch,.slice ab nb cb] 27):=⟨_,rfl⟩
 have E1:Hid (Ext w w1):=by show Ext _ _;rw[hw1];exact Zab zbr _
 have C2:Hid (w1.cell? ⟨w.heap.size,2,none⟩=some (.slice ab nb cb)):=by show _=_;rw[hw1];go_simp
 have S1:Hid (w1.heap.size=w.heap.size+1):=by show _=_;rw[hw1];simp
 clear hr hv
 go_enter Tryz.func46,Tryz.ntmps46
 go_wp2
 rw[←hw1]
 clear hw1
 obtain⟨p1,hp1⟩:∃p,w.heap.size=p:=⟨_,rfl⟩
 rw[hp1] at C2 S1 ⊢
 go_loopw [3,4] (fun v u wj=>∃k:Nat,k≤nb∧u=.int .i64 k∧ZdM w1 wj ((r.body.take k).foldl Zb4 []) v) (fun _ u _=>nb-(intOf u).toNat)
 case atStart=>exact⟨0,by omega,rfl,World.ownsRow_nil _ _ _ _,Below.refl _ _⟩
 case round=>
  obtain⟨k,hk,rfl,hst⟩:=hrel
  have ST:=zh hst
  have c2:=Zac hst.2 C2.out
  clear hst
  by_cases hlt:k<nb
  ·have hki:(k:Int)<(nb:Int):=by omega
   have EW:Hid (Ext w wr):=Zaa E1.out ST.out.2
   obtain⟨l,bl,off,hx,rfl,al,nl,cl,h0,h1,h2,h3,h4,h5,h6,h7,h8,h9,h10,h11,h12⟩:=(HR.out.body.keep EW.out).2.at hlt
   have HX:=zh hx
   have HTK:Hid (r.body.take (k+1)=r.body.take k++[l]):=ZaA hx
   have HTM:Hid (Zaq wr al nl l.atom.terms):=h8
   have HLT:=zh h8.2.1
   have hnl:=h8.1
   have G2:=zh h2
   clear hx h8 h9 h10 h11 h12
   obtain⟨b1,e1⟩:∃b,(l.kind != 1)=b:=⟨_,rfl⟩
   have K1:Hid ((l.kind=1)↔b1=false):=by show _↔_;rw[←e1];simp
   obtain⟨out0,hout0⟩:∃out0,(r.body.take k).foldl Zb4 []=out0:=⟨_,rfl⟩
   have HO0:=zh hout0
   rw[hout0] at ST
   have HNX:Hid (∀o:List ByteArray,o=l.atom.terms.foldl (Zak l.kind) out0→(r.body.take (k+1)).foldl Zb4 []=o):=fun o ho=>by rw[HTK.out,List.foldl_append,HO0.out,ho];rfl
   have HLE:Hid (∀j,((l.atom.terms.take j).foldl (Zak l.kind) out0).length≤1000000):=fun j=>by
    have:=Zjh (j:=j) HX.out
    rw[HO0.out] at this
    exact Nat.le_trans this HV.out
   clear hout0
   cases b1 with
   |true=>
    have HQ:Hid (l.atom.terms.foldl (Zak l.kind) out0=out0):=by
     show _=_
     have:∀ts:List ZaG,ts.foldl (Zak l.kind) out0=out0:=fun ts=>by
      induction ts with
      |nil=>rfl
      |cons t ts ih=>
       rw[List.foldl_cons]
       have:Zak l.kind out0 t=out0:=by
        unfold Zak
        rw[if_neg (fun h=>by have:=K1.out.1 h.1;cases this)]
       rw[this]
       exact ih
     exact this _
    go_wp2
    go_roundw
    case rel=>exact⟨k+1,by omega,by go_num,by rw[HNX.out out0 HQ.out.symm];exact ST.out⟩
    case measure=>simp[intOf];omega
   |false=>
    have hk1:=K1.out.2 rfl
    go_wp2
    refine Zba (fun Wr hWr=>?_)
    subst hWr
    clear h0 h1 h2 h3 h4 h5 h6 h7 c2
    go_loopw [3,5] (fun v u wj=>∃j:Nat,j≤nl∧u=.int .i64 j∧ZdM w1 wj ((l.atom.terms.take j).foldl (Zak l.kind) out0) v∧Ext w wj) (fun _ u _=>nl-(intOf u).toNat)
    case atStart=>exact⟨0,by omega,rfl,ST.out,EW.out⟩
    case round=>
     obtain⟨j,hj,rfl,hst,hwj⟩:=hrel
     obtain⟨out,hout⟩:∃out,(l.atom.terms.take j).foldl (Zak l.kind) out0=out:=⟨_,rfl⟩
     rw[hout] at hst
     have HOUT:=zh hout
     obtain⟨a3,c3,rfl,_⟩:=Zag hst.1
     have SJ:=zh hst
     have d2:=Zac hst.2 C2.out
     have EWJ:=zh hwj
     obtain⟨l',bl',off',hx',e',al',nl',cl',_,_,q2,_,_,_,_,_,q8,_⟩:=(HR.out.body.keep hwj).2.at hlt
     have hll:l'=l:=by rw[HX.out] at hx';cases hx';rfl
     subst hll
     cases e'
     have hsl:al'=al∧nl'=nl∧cl'=cl:=by
      obtain⟨l2,bl2,off2,hx2,e2,al2,nl2,cl2,_,_,z2,_⟩:=HR.out.body.2.at hlt
      cases e2
      have z3:=Zac EW.out z2
      rw[G2.out] at z3
      cases z3
      have z4:=Zac hwj z2
      rw[q2] at z4
      cases z4
      exact⟨rfl,rfl,rfl⟩
     obtain⟨rfl,rfl,rfl⟩:=hsl
     have HTJM:Hid (Zaq wr al' nl' l'.atom.terms):=q8
     clear hst hout hx' q8 hwj
     by_cases hlj:j<nl'
     ·have hji:(j:Int)<(nl':Int):=by omega
      obtain⟨t,bt,ot,hx,rfl,hc1,hc2,hc3⟩:=HTJM.out.2.at hlj
      have HTJ:Hid ((l'.atom.terms.take (j+1)).foldl (Zak l'.kind) out0=Zak l'.kind out t):=by
       show _=_
       rw[ZaA hx,List.foldl_append,HOUT.out]
       rfl
      have hol:out.length≤1000000:=by
       have:=HLE.out j
       rwa [HOUT.out] at this
      clear hx
      obtain⟨b2,e2⟩:∃b,(t.kind==1)=b:=⟨_,rfl⟩
      have K2:Hid ((t.kind=1)↔b2=true):=by show _↔_;rw[←e2];simp
      have SA:Hid (∀o,ZdM w1 (wr.alloc o) out (.slice a3 out.length c3)):=fun o=>SJ.out.ext (Zab zbr o)
      have EA:Hid (∀o,Ext w (wr.alloc o)):=fun o=>Zab EWJ.out o
      have CN:Hid (∀o,Calls Tryz.prog 76 #[.slice a3 out.length c3,.string t.text] (wr.alloc o) fun e w'=>e=.returned (.bool (decide (t.text∈out)))∧w'=wr.alloc o):=fun o=>ZrQ out t.text a3 _ c3 _ (SA.out o).strs
      cases b2 with
      |false=>
       have HQ:Hid (Zak l'.kind out t=out):=by
        show _=_
        unfold Zak
        rw[if_neg (fun h=>absurd (K2.out.1 h.2.1) (by simp))]
       go_wp2
       go_roundw
       case rel=>exact⟨j+1,by omega,by go_num,by rw[HTJ.out,HQ.out];exact SA.out _,EA.out _⟩
       case measure=>simp[intOf];omega
      |true=>
       obtain⟨b3,e3⟩:∃b,decide (t.text∈out)=b:=⟨_,rfl⟩
       rw[e3] at CN
       have K3:Hid (t.text∈out↔b3=true):=by show _↔_;rw[←e3,decide_eq_true_eq]
       clear e3
       cases b3 with
       |true=>
        have HQ:Hid (Zak l'.kind out t=out):=by
         show _=_
         unfold Zak
         rw[if_neg (fun h=>h.2.2 (K3.out.2 rfl))]
        go_wp2_with (go_at_call 76;(with_reducible refine(CN.out _).mono ?_);rintro e w2 ⟨rfl,hw2⟩;obtain rfl:=hw2.symm)
        go_roundw
        case rel=>exact⟨j+1,by omega,by go_num,by rw[HTJ.out,HQ.out];exact SA.out _,EA.out _⟩
        case measure=>simp[intOf];omega
       |false=>
        have HQ:Hid (Zak l'.kind out t=out++[t.text]):=by
         show _=_
         unfold Zak
         rw[if_pos ⟨hk1,K2.out.2 rfl,fun h=>absurd (K3.out.1 h) (by simp)⟩]
        have HZ:Hid (∀o o',w1.heap.size≤((wr.alloc o).alloc o').heap.size):=fun o o'=>(Zab (Zab SJ.out.2 o) o').size
        have Z1:Hid (w.heap.size≤w1.heap.size):=E1.out.size
        go_wp2_with (first
         |(go_at_call 76;(with_reducible refine(CN.out _).mono ?_);rintro e w2 ⟨rfl,hw2⟩;obtain rfl:=hw2.symm)
         |(at_builtin;go_loud (refine wpList_append_lies _ rfl _ _ 54 rfl w1.heap.size 9 i0 (.string ⟨#[]⟩) 1 16 Tryz.underlying54 hi hz0 hz1 hz2 rfl (by decide) _ out.length (out.map Value.string) rfl (((SA.out _).ext (Zab zbr _)).1) ⟨wr.heap.size+1,0,none⟩ 1 1 [.string t.text] rfl rfl (by have:=Zgt (wr.alloc (.cells #[.int .i64 t.kind,.string t.text] 64)) (.string t.text) 9;simpa using this) (fun x hx=>by cases List.mem_singleton.1 hx;rfl) (Nat.zero_lt_one) (by unfold maxLen;omega) (by omega) (HZ.out _ _) _ rfl ?_);intro g7 p7 w7 own7 q7 hat7 hlt7))
        go_roundw
        case rel=>
         refine⟨j+1,by omega,by go_num,?_,?_⟩
         ·rw[HTJ.out,HQ.out]
          refine⟨by rw[List.length_append,List.map_append];exact own7,?_⟩
          exact Zaz (((SA.out _).ext (Zab zbr _)).2) q7 (fun g hg=>(SJ.out.1.lt g hg).1)
         ·exact Zaz (Zab (EA.out _) _) q7 (fun g hg=>Nat.le_trans Z1.out (SJ.out.1.lt g hg).1)
        case measure=>simp[intOf];omega
     ·obtain rfl:j=nl':=by omega
      have hge:¬(j:Int)<(j:Int):=by omega
      have HALL:Hid (l'.atom.terms.take j=l'.atom.terms):=List.take_of_length_le (by have:=HLT.out;omega)
      go_wp2
      go_roundw
      case rel=>exact⟨k+1,by omega,by go_num,by rw[HNX.out out (by rw[←HOUT.out,HALL.out])];exact SJ.out⟩
      case measure=>simp[intOf];omega
  ·obtain rfl:k=nb:=by omega
   have hge:¬(k:Int)<(k:Int):=by omega
   have HALL:Hid ((r.body.take k).foldl Zb4 []=Zad r):=by
    show _=_
    rw[List.take_of_length_le (by have:=HLB.out;omega)]
    rfl
   rw[HALL.out] at ST
   go_wp2
   go_returns
   exact⟨_,rfl,Zao ST.out.1 (by have:=S1.out;omega),Zaa E1.out ST.out.2⟩
theorem Zr3 (t:ZaG)(xs:List ByteArray)(a:Option Addr)(n c:Nat)(w:World)(h:Zai w a n xs):
  Calls Tryz.prog 75 #[Zd8 t,.slice a n c] w fun e w'=>e=.returned (.bool (Zbz xs t false))∧Ext w w':=by
 have EA:Hid (∀o,Ext w (w.alloc o)):=fun o=>Zab zbr o
 have HS:Hid (∀o,Calls Tryz.prog 76 #[.slice a n c,.string t.text] (w.alloc o) fun e w'=>e=.returned (.bool (decide (t.text∈xs)))∧w'=w.alloc o):=fun o=>ZrQ xs t.text a n c _ (h.keep (EA.out o))
 obtain⟨b2,h2⟩:∃b,(t.kind==2)=b:=⟨_,rfl⟩
 obtain⟨b3,h3⟩:∃b,(t.kind==3)=b:=⟨_,rfl⟩
 obtain⟨b4,h4⟩:∃b,(t.kind==4)=b:=⟨_,rfl⟩
 have HQ:Hid (Zbz xs t false=if b2=true then false else if b3=true∨b4=true then true else decide (t.text∈xs)):=by
  show _=_
  unfold Zbz
  rw[←h2,←h3,←h4]
  simp only[beq_iff_eq]
 clear h
 cases b2 <;> cases b3 <;> cases b4
 all_goals
  go_enter Tryz.func75,Tryz.ntmps75
  go_wp2_with (go_at_call 76;(with_reducible refine(HS.out _).mono ?_);rintro e w1 ⟨rfl,hw1⟩;obtain rfl:=hw1.symm)
  go_returns
  exact⟨by rw[HQ.out];rfl,EA.out _⟩
theorem Znv (ts:List ZaG):ts.all (Zdh 3)=Zbt ts:=by
 unfold Zbt
 rw[Bool.eq_iff_iff,List.all_eq_true,Bool.not_eq_true',List.any_eq_false]
 refine forall_congr' fun t=>forall_congr' fun _=>?_
 unfold Zdh ZpV
 simp
theorem ZtA (ts:List ZaG):ts.all (Zdh 7)= !ts.any Znc:=by
 rw[Bool.eq_iff_iff,List.all_eq_true,Bool.not_eq_true',List.any_eq_false]
 refine forall_congr' fun t=>forall_congr' fun _=>?_
 unfold Zdh Znc
 simp
theorem ZpP (ts:List ZaG):Zfc ts≤ts.length:=List.length_filter_le _ _
theorem Zr4 (w:World)(t1 t2:ZaG)(h1:t1.text.size≤maxLen)(h2:t2.text.size≤maxLen):Zaq (w.alloc (.cells #[.int .i64 t1.kind,.string t1.text,.int .i64 t2.kind,.string t2.text] 64)) (some ⟨w.heap.size,0,none⟩) 2 [t1,t2]:=by
 refine⟨by omega,rfl,fun i x hx=>⟨_,0,rfl,?_⟩⟩
 match i,hx with
 |0,hx=>cases hx;exact⟨by rw[World.cell?_alloc_new];rfl,by rw[World.cell?_alloc_new];rfl,h1⟩
 |1,hx=>cases hx;exact⟨by rw[World.cell?_alloc_new];rfl,by rw[World.cell?_alloc_new];rfl,h2⟩
 |i+2,hx=>simp at hx
def Zcs (r:ZaQ):Bool:=Zb7 r.head.terms&&r.body.all Zbf
theorem ZpQ (r:ZaQ)(ah:Option Addr)(nh ch:Nat)(ab:Option Addr)(nb cb:Nat)(w:World)(hr:ZaR w r ah nh ch ab nb cb):
  Calls Tryz.prog 74 #[.agg #[.string r.head.pred,.slice ah nh ch,.slice ab nb cb]] w fun e w'=>e=.returned (.bool (Zcs r))∧Ext w w':=by
 have HR:=zh hr
 have HLB:=zh hr.body.2.1
 have HLH:=zh hr.terms.2.1
 have hn:=hr.body.1
 have hn2:=hr.terms.1
 clear hr
 obtain⟨w1,hw1⟩:∃w1,w1=w.alloc (.cells #[.string r.head.pred,.slice ah nh ch,.slice ab nb cb] 27):=⟨_,rfl⟩
 have E1:Hid (Ext w w1):=by show Ext _ _;rw[hw1];exact Zab zbr _
 have C1:Hid (w1.cell? ⟨w.heap.size,1,none⟩=some (.slice ah nh ch)):=by show _=_;rw[hw1];go_simp
 have C2:Hid (w1.cell? ⟨w.heap.size,2,none⟩=some (.slice ab nb cb)):=by show _=_;rw[hw1];go_simp
 go_enter Tryz.func74,Tryz.ntmps74
 go_wp2
 rw[←hw1]
 clear hw1
 obtain⟨p1,hp1⟩:∃p,w.heap.size=p:=⟨_,rfl⟩
 rw[hp1] at C1 C2 ⊢
 clear hp1
 go_loopw [3,4] (fun v u wj=>∃k:Nat,k≤nh∧u=.int .i64 k∧v=.int .i64 (Zfc (r.head.terms.take k):Nat)∧Ext w1 wj) (fun _ u _=>nh-(intOf u).toNat)
 case atStart=>exact⟨0,by omega,rfl,rfl,Below.refl _ _⟩
 case round=>
  obtain⟨k,hk,rfl,rfl,hE⟩:=hrel
  have HE:=zh hE
  have HEW:Hid (Ext w wr):=Zaa E1.out hE
  have c1:=Zac hE C1.out
  clear hE
  have HAL:Hid (Zfc (r.head.terms.take k)≤k):=by
   have:=ZpP (r.head.terms.take k)
   rw[List.length_take] at this
   show _≤_
   omega
  obtain⟨A,hA⟩:∃A,Zfc (r.head.terms.take k)=A:=⟨_,rfl⟩
  rw[hA] at HAL ⊢
  by_cases hlt:k<nh
  ·have hki:(k:Int)<(nh:Int):=by omega
   obtain⟨t,bt,ot,hx,rfl,hc1,hc2,hc3⟩:=(HR.out.terms.keep HEW.out).2.at hlt
   have HTK:Hid (Zfc (r.head.terms.take (k+1))=A+if Zlt t=true then 1 else 0):=by show _=_;rw[ZaA hx,ZfP,hA]
   have hal:=HAL.out
   obtain⟨q,hq⟩:∃q,decide ((4:Int)≤t.kind)=q:=⟨_,rfl⟩
   have HAT:Hid (Zlt t=q):=hq
   clear hx hA
   cases q with
   |true=>
    go_wp2
    go_roundw
    case rel=>exact⟨k+1,by omega,by go_num,by rw[HTK.out,HAT.out];go_num,HE.out⟩
    case measure=>simp[intOf];omega
   |false=>
    go_wp2
    go_roundw
    case rel=>exact⟨k+1,by omega,by go_num,by rw[HTK.out,HAT.out];rfl,HE.out⟩
    case measure=>simp[intOf];omega
  ·obtain rfl:k=nh:=by omega
   have hge:¬(k:Int)<(k:Int):=by omega
   have HA:Hid (Zfc r.head.terms=A):=by
    have:=hA
    rwa [List.take_of_length_le (by have:=HLH.out;omega)] at this
   have KD:Hid (Calls Tryz.prog 117 #[.slice ah k ch,.int .i64 7] wr fun e w'=>e=.returned (.bool (!r.head.terms.any Znc))∧w'=wr):=by
    have:=Zkg r.head.terms 7 ah k ch wr (HR.out.terms.keep HEW.out)
    rw[ZtA] at this
    exact this
   obtain⟨q1,h1⟩:∃q,(!r.head.terms.any Znc)=q:=⟨_,rfl⟩
   obtain⟨q2,h2⟩:∃q,decide ((1:Int)<(A:Int))=q:=⟨_,rfl⟩
   obtain⟨q3,h3⟩:∃q,decide ((64:Int)<(k:Int))=q:=⟨_,rfl⟩
   have HOK:Hid (Zb7 r.head.terms=(q1&&(!q2&&!q3))):=by
    show _=_
    unfold Zb7
    rw[h1,HA.out,HLH.out,←h2,←h3]
    congr 2
    ·rw[Bool.eq_iff_iff];simp;omega
    ·rw[Bool.eq_iff_iff];simp;omega
   rw[h1] at KD
   clear h1
   have PF:Hid ((q1&&(!q2&&!q3))=false→Zcs r=false):=fun h=>by unfold Zcs;rw[HOK.out,h];rfl
   have PT:Hid ((q1&&(!q2&&!q3))=true→Zcs r=r.body.all Zbf):=fun h=>by unfold Zcs;rw[HOK.out,h];rfl
   by_cases hb:(q1&&(!q2&&!q3))=false
   ·have HF:=zh (PF.out hb)
    have HB:=zh hb
    clear hb
    cases q1 <;> cases q2 <;> cases q3
    all_goals first
     |(exfalso;have:=HB.out;simp at this;done)
     |(go_wp2_with (go_at_call 117;(with_reducible refine KD.out.mono ?_);rintro e w3 ⟨rfl,hw3⟩;obtain rfl:=hw3.symm)
       go_returns
       exact⟨by rw[HF.out];rfl,HEW.out⟩)
   ·obtain⟨rfl,rfl,rfl⟩:q1=true∧q2=false∧q3=false:=by revert hb;cases q1 <;> cases q2 <;> cases q3 <;> simp
    have HT:Hid (Zcs r=r.body.all Zbf):=PT.out rfl
    clear hb
    go_wp2_with (go_at_call 117;(with_reducible refine KD.out.mono ?_);rintro e w3 ⟨rfl,hw3⟩;obtain rfl:=hw3.symm)
    go_loopw [5] (fun u wj=>∃k:Nat,k≤nb∧u=.int .i64 k∧(r.body.take k).all Zbf=true∧Ext w1 wj) (fun u _=>nb-(intOf u).toNat)
    case atStart=>exact⟨0,by omega,rfl,rfl,HE.out⟩
    case round=>
     obtain⟨m,hm,rfl,hq,hE⟩:=hrel
     have HQ:=zh hq
     have HE2:=zh hE
     have HEW2:Hid (Ext w wr):=Zaa E1.out hE
     have c2:=Zac hE C2.out
     clear hq hE
     by_cases hlm:m<nb
     ·have hmi:(m:Int)<(nb:Int):=by omega
      obtain⟨l,bl,off,hx,rfl,al,nl,cl,h0,h1,h2,h3,h4,h5,h6,h7,h8,h9,h10,h11,h12⟩:=(HR.out.body.keep HEW2.out).2.at hlm
      have HX:=zh hx
      have HTK:Hid (r.body.take (m+1)=r.body.take m++[l]):=ZaA hx
      have HA9:Hid (∀o,Ext w1 (wr.alloc o)∧Ext w (wr.alloc o)):=fun o=>⟨Zab HE2.out o,Zab HEW2.out o⟩
      have KL:Hid (∀o,Calls Tryz.prog 117 #[.slice al nl cl,.int .i64 3] (wr.alloc o) fun e w'=>e=.returned (.bool (Zbt l.atom.terms))∧w'=wr.alloc o):=fun o=>by
       have:=Zkg l.atom.terms 3 al nl cl (wr.alloc o) (h8.keep (Zab zbr _))
       rw[Znv] at this
       exact this
      have HNL:Hid (l.atom.terms.length=nl):=h8.2.1
      have PFL:Hid (Zbf l=false→Zcs r=false):=fun h=>by
       rw[HT.out,List.all_eq_false]
       exact⟨l,zmg HX.out,by rw[h];simp⟩
      have PTL:Hid (Zbf l=true→(r.body.take (m+1)).all Zbf=true):=fun h=>by rw[HTK.out,List.all_append,HQ.out];simp[h]
      have T1:=zh h11
      have T2:=zh h12
      clear h8 h9 h10 h11 h12 hx
      obtain⟨b1,e1⟩:∃b,(l.kind==1)=b:=⟨_,rfl⟩
      obtain⟨b2,e2⟩:∃b,(l.kind==2)=b:=⟨_,rfl⟩
      obtain⟨b3,e3⟩:∃b,(l.kind==3)=b:=⟨_,rfl⟩
      have LK:Hid (Zbf l=if b1=true∨b2=true then decide (nl≤64)&&Zbt l.atom.terms else if b3=true then (decide (1≤l.op)&&decide (l.op≤4))&&Zbt [l.left,l.right] else false):=by
       show _=_
       unfold Zbf
       rw[←e1,←e2,←e3,HNL.out]
       simp only[beq_iff_eq]
      cases b1 with
      |true=>
       have L2:Hid (Zbf l=(decide (nl≤64)&&Zbt l.atom.terms)):=by show _=_;rw[LK.out,if_pos (by simp)]
       obtain⟨q1,h1s⟩:∃q,Zbt l.atom.terms=q:=⟨_,rfl⟩
       obtain⟨q2,h2s⟩:∃q,decide ((64:Int)<(nl:Int))=q:=⟨_,rfl⟩
       have L3:Hid (Zbf l=(!q2&&q1)):=by
        show _=_
        rw[L2.out,h1s,←h2s]
        congr 1
        rw[Bool.eq_iff_iff];simp;omega
       rw[h1s] at KL
       clear h1s
       by_cases hb:(!q2&&q1)=false
       ·have LF:Hid (Zbf l=false):=L3.out.trans hb
        have HB:=zh hb
        clear hb
        cases q1 <;> cases q2
        all_goals first
         |(exfalso;have:=HB.out;simp at this;done)
         |(go_wp2_with (go_at_call 117;(with_reducible refine(KL.out _).mono ?_);rintro e w3 ⟨rfl,hw3⟩;obtain rfl:=hw3.symm)
           go_returns
           exact⟨by rw[PFL.out LF.out];rfl,(HA9.out _).2⟩)
       ·obtain⟨rfl,rfl⟩:q1=true∧q2=false:=by revert hb;cases q1 <;> cases q2 <;> simp
        have LT:Hid (Zbf l=true):=L3.out
        clear hb
        go_wp2_with (go_at_call 117;(with_reducible refine(KL.out _).mono ?_);rintro e w3 ⟨rfl,hw3⟩;obtain rfl:=hw3.symm)
        go_roundw
        case rel=>exact⟨m+1,by omega,by go_num,PTL.out LT.out,(HA9.out _).1⟩
        case measure=>simp[intOf];omega
      |false=>
       cases b2 with
       |true=>
        have L2:Hid (Zbf l=(decide (nl≤64)&&Zbt l.atom.terms)):=by show _=_;rw[LK.out,if_pos (by simp)]
        obtain⟨q1,h1s⟩:∃q,Zbt l.atom.terms=q:=⟨_,rfl⟩
        obtain⟨q2,h2s⟩:∃q,decide ((64:Int)<(nl:Int))=q:=⟨_,rfl⟩
        have L3:Hid (Zbf l=(!q2&&q1)):=by
         show _=_
         rw[L2.out,h1s,←h2s]
         congr 1
         rw[Bool.eq_iff_iff];simp;omega
        rw[h1s] at KL
        clear h1s
        by_cases hb:(!q2&&q1)=false
        ·have LF:Hid (Zbf l=false):=L3.out.trans hb
         have HB:=zh hb
         clear hb
         cases q1 <;> cases q2
         all_goals first
          |(exfalso;have:=HB.out;simp at this;done)
          |(go_wp2_with (go_at_call 117;(with_reducible refine(KL.out _).mono ?_);rintro e w3 ⟨rfl,hw3⟩;obtain rfl:=hw3.symm)
            go_returns
            exact⟨by rw[PFL.out LF.out];rfl,(HA9.out _).2⟩)
        ·obtain⟨rfl,rfl⟩:q1=true∧q2=false:=by revert hb;cases q1 <;> cases q2 <;> simp
         have LT:Hid (Zbf l=true):=L3.out
         clear hb
         go_wp2_with (go_at_call 117;(with_reducible refine(KL.out _).mono ?_);rintro e w3 ⟨rfl,hw3⟩;obtain rfl:=hw3.symm)
         go_roundw
         case rel=>exact⟨m+1,by omega,by go_num,PTL.out LT.out,(HA9.out _).1⟩
         case measure=>simp[intOf];omega
       |false=>
        cases b3 with
        |true=>
         have L2:Hid (Zbf l=((decide (1≤l.op)&&decide (l.op≤4))&&Zbt [l.left,l.right])):=by show _=_;rw[LK.out,if_neg (by simp),if_pos rfl]
         have KC:Hid (∀o,Calls Tryz.prog 117 #[.slice (some ⟨wr.heap.size+1,0,none⟩) 2 2,.int .i64 3] ((wr.alloc o).alloc (.cells #[.int .i64 l.left.kind,.string l.left.text,.int .i64 l.right.kind,.string l.right.text] 64)) fun e w'=>e=.returned (.bool (Zbt [l.left,l.right]))∧w'=(wr.alloc o).alloc (.cells #[.int .i64 l.left.kind,.string l.left.text,.int .i64 l.right.kind,.string l.right.text] 64)):=fun o=>by
          have e:(wr.alloc o).heap.size=wr.heap.size+1:=by simp
          have:=Zkg [l.left,l.right] 3 (some ⟨(wr.alloc o).heap.size,0,none⟩) 2 2 _ (Zr4 (wr.alloc o) l.left l.right T1.out T2.out)
          rw[e] at this
          rw[Znv] at this
          exact this
         obtain⟨q1,h1s⟩:∃q,Zbt [l.left,l.right]=q:=⟨_,rfl⟩
         obtain⟨q2,h2s⟩:∃q,decide (l.op<1)=q:=⟨_,rfl⟩
         obtain⟨q3,h3s⟩:∃q,decide ((4:Int)<l.op)=q:=⟨_,rfl⟩
         have L3:Hid (Zbf l=((!q2&&!q3)&&q1)):=by
          show _=_
          rw[L2.out,h1s,←h2s,←h3s]
          congr 2
          ·rw[Bool.eq_iff_iff];simp;try omega
          ·rw[Bool.eq_iff_iff];simp
         rw[h1s] at KC
         clear h1s
         by_cases hb:((!q2&&!q3)&&q1)=false
         ·have LF:Hid (Zbf l=false):=L3.out.trans hb
          have HB:=zh hb
          clear hb
          cases q1 <;> cases q2 <;> cases q3
          all_goals first
           |(exfalso;have:=HB.out;simp at this;done)
           |(go_wp2_with (go_at_call 117;(with_reducible refine(KC.out _).mono ?_);rintro e w3 ⟨rfl,hw3⟩;obtain rfl:=hw3.symm)
             go_returns
             exact⟨by rw[PFL.out LF.out];rfl,by first|exact(HA9.out _).2|exact Zab (HA9.out _).2 _⟩)
         ·obtain⟨rfl,rfl,rfl⟩:q1=true∧q2=false∧q3=false:=by revert hb;cases q1 <;> cases q2 <;> cases q3 <;> simp
          have LT:Hid (Zbf l=true):=L3.out
          clear hb
          go_wp2_with (go_at_call 117;(with_reducible refine(KC.out _).mono ?_);rintro e w3 ⟨rfl,hw3⟩;obtain rfl:=hw3.symm)
          go_roundw
          case rel=>exact⟨m+1,by omega,by go_num,PTL.out LT.out,Zab (HA9.out _).1 _⟩
          case measure=>simp[intOf];omega
        |false=>
         have LF:Hid (Zbf l=false):=by show _=_;rw[LK.out,if_neg (by simp),if_neg (by simp)]
         go_wp2
         go_returns
         exact⟨by rw[PFL.out LF.out];rfl,(HA9.out _).2⟩
     ·obtain rfl:m=nb:=by omega
      have hge2:¬(m:Int)<(m:Int):=by omega
      have HALL:Hid (Zcs r=true):=by
       have:=HQ.out
       rw[List.take_of_length_le (by have:=HLB.out;omega)] at this
       show _=_
       rw[HT.out,this]
      go_wp2
      go_returns
      exact⟨by rw[HALL.out];rfl,HEW2.out⟩
def Zc0 (xs:List ByteArray)(l:K.Lit)(t:ZaG):Bool:=decide (l.kind=2)&&(decide (t.kind=1)&&!decide (t.text∈xs))
theorem ZpR {xs:List ByteArray}{l:K.Lit}(h:Zbf l=true):l.atom.terms.any (ZcZ xs l)=l.atom.terms.any (Zc0 xs l):=by
 by_cases hk:l.kind=2
 ·have h2:Zbt l.atom.terms=true:=by
   unfold Zbf at h
   rw[if_pos (.inr hk),Bool.and_eq_true] at h
   exact h.2
  rw[←Znv,List.all_eq_true] at h2
  rw[Bool.eq_iff_iff,List.any_eq_true,List.any_eq_true]
  refine exists_congr fun t=>and_congr_right fun ht=>?_
  have h3:=h2 t ht
  unfold Zdh at h3
  rw[Bool.and_eq_true,decide_eq_true_eq,decide_eq_true_eq] at h3
  unfold ZcZ Zc0 Zbz
  rw[decide_eq_true hk,Bool.true_and,Bool.true_and]
  rcases (show t.kind=1∨t.kind=2∨t.kind=3 by omega) with e|e|e <;> simp[e]
 ·rw[Bool.eq_iff_iff,List.any_eq_true,List.any_eq_true]
  refine exists_congr fun t=>and_congr_right fun ht=>?_
  unfold ZcZ Zc0
  rw[decide_eq_false hk,Bool.false_and,Bool.false_and]
def Zb2 (xs:List ByteArray)(l:K.Lit):Bool:=ZdW xs l||l.atom.terms.any (Zc0 xs l)
theorem Zgj (r:ZaQ):Zap r=if Zcs r=false then 2 else if r.head.terms.any (ZcP (Zad r))=true then 111 else if r.body.any (Zb2 (Zad r))=true then 111 else 0:=by
 unfold Zap Zcs
 by_cases h1:Zb7 r.head.terms=false
 ·rw[if_pos h1,if_pos (by rw[h1];rfl)]
 ·have h1':Zb7 r.head.terms=true:=by simpa using h1
  rw[if_neg h1]
  by_cases h2:r.body.any (fun l=>!Zbf l)=true
  ·rw[if_pos h2,if_pos]
   rw[h1',Bool.true_and,List.all_eq_false]
   obtain⟨l,hl,hq⟩:=List.any_eq_true.1 h2
   exact⟨l,hl,by simpa using hq⟩
  ·have h3:r.body.all Zbf=true:=by
    rw[List.all_eq_true]
    intro l hl
    rw[Bool.not_eq_true,List.any_eq_false] at h2
    simpa using h2 l hl
   have h5:¬(Zb7 r.head.terms&&r.body.all Zbf)=false:=by rw[h1',h3];simp
   rw[if_neg h2,if_neg h5]
   have h4:r.body.any (Zcr (Zad r))=r.body.any (Zb2 (Zad r)):=by
    rw[Bool.eq_iff_iff,List.any_eq_true,List.any_eq_true]
    refine exists_congr fun l=>and_congr_right fun hl=>?_
    unfold Zcr Zb2
    rw[ZpR (List.all_eq_true.1 h3 l hl)]
   rw[h4]
theorem ZgU (r:ZaQ)(ah:Option Addr)(nh ch:Nat)(ab:Option Addr)(nb cb:Nat)(w:World)(hr:ZaR w r ah nh ch ab nb cb)(hv:(Zad r).length≤1000000):
  Calls Tryz.prog 32 #[.agg #[.string r.head.pred,.slice ah nh ch,.slice ab nb cb]] w (Zb5 r w):=by
 have HR:=zh hr
 have HLB:=zh hr.body.2.1
 have HLH:=zh hr.terms.2.1
 have HV:=zh hv
 have hn:=hr.body.1
 have hn2:=hr.terms.1
 clear hr hv
 obtain⟨w1,hw1⟩:∃w1,w1=w.alloc (.cells #[.string r.head.pred,.slice ah nh ch,.slice ab nb cb] 27):=⟨_,rfl⟩
 have E1:Hid (Ext w w1):=by show Ext _ _;rw[hw1];exact Zab zbr _
 have C0:Hid (w1.cell? ⟨w.heap.size,0,none⟩=some (.string r.head.pred)):=by show _=_;rw[hw1];go_simp
 have C1:Hid (w1.cell? ⟨w.heap.size,1,none⟩=some (.slice ah nh ch)):=by show _=_;rw[hw1];go_simp
 have C2:Hid (w1.cell? ⟨w.heap.size,2,none⟩=some (.slice ab nb cb)):=by show _=_;rw[hw1];go_simp
 have CP:=zh (Zgj r)
 have PT:Hid (∀W,Ext w W→Calls Tryz.prog 74 #[.agg #[.string r.head.pred,.slice ah nh ch,.slice ab nb cb]] W fun e w'=>e=.returned (.bool (Zcs r))∧Ext W w'):=fun W hW=>ZpQ r ah nh ch ab nb cb W (HR.out.keep hW)
 have NM:Hid (∀W,Ext w W→Calls Tryz.prog 46 #[.agg #[.string r.head.pred,.slice ah nh ch,.slice ab nb cb]] W fun e w'=>∃v,e=.returned v∧ZdM W w' (Zad r) v):=fun W hW=>Zip r ah nh ch ab nb cb W (HR.out.keep hW) HV.out
 obtain⟨bp,hbp⟩:∃b,Zcs r=b:=⟨_,rfl⟩
 have HBP:=zh hbp
 rw[hbp] at PT
 clear hbp
 unfold Zb5
 obtain⟨p1,hp1⟩:∃p,w.heap.size=p:=⟨_,rfl⟩
 rw[hp1] at C0 C1 C2
 have c0:=C0.out
 have c1:=C1.out
 have c2:=C2.out
 cases bp with
 |false=>
  have HF:Hid (Zap r=2):=by show _=_;rw[CP.out,if_pos HBP.out]
  go_enter Tryz.func32,Tryz.ntmps32
  go_wp2_with (go_at_call 74;(with_reducible refine(PT.out _ (Zab zbr _)).mono ?_);rintro e w2 ⟨rfl,e2⟩)
  go_returns
  exact⟨by rw[HF.out];rfl,Zaa (Zab zbr _) e2⟩
 |true=>
  have HT:Hid (Zap r=if r.head.terms.any (ZcP (Zad r))=true then 111 else if r.body.any (Zb2 (Zad r))=true then 111 else 0):=by show _=_;rw[CP.out,if_neg (by rw[HBP.out];simp)]
  go_enter Tryz.func32,Tryz.ntmps32
  go_wp2_with (first|(go_at_call 74;(with_reducible refine(PT.out _ (Zab zbr _)).mono ?_);rintro e w2 ⟨rfl,e2⟩;rw[←hw1] at e2;have d0:=Zac e2 c0;have d1:=Zac e2 c1;have d2:=Zac e2 c2)|(go_at_call 46;(with_reducible refine(NM.out _ (Zaa E1.out e2)).mono ?_);rintro e w3 ⟨v,rfl,own3,e3⟩;obtain⟨av,cv,rfl,_⟩:=Zag own3))
  have HE3:=zh (Zaa e2 e3)
  have EW3:Hid (Ext w w3):=Zaa E1.out (Zaa e2 e3)
  have SV:Hid (Zai w3 av (Zad r).length (Zad r)):=ZaL own3 (Za4 own3).1
  have D1:=zh (Zac e3 d1)
  have D2:=zh (Zac e3 d2)
  obtain⟨nv,hnv⟩:∃nv,(Zad r).length=nv:=⟨_,rfl⟩
  rw[hnv] at SV ⊢
  have BD:Hid (∀(t:ZaG) W,Ext w3 W→Calls Tryz.prog 75 #[Zd8 t,.slice av nv cv] W fun e w'=>e=.returned (.bool (Zbz (Zad r) t false))∧Ext W w'):=fun t W hW=>Zr3 t (Zad r) av nv cv W (SV.out.keep hW)
  have HS:Hid (∀(t:ByteArray) W,Ext w3 W→Calls Tryz.prog 76 #[.slice av nv cv,.string t] W fun e w'=>e=.returned (.bool (decide (t∈Zad r)))∧w'=W):=fun t W hW=>ZrQ (Zad r) t av nv cv W (SV.out.keep hW)
  clear c0 c1 c2 d0 d1 d2 e2 e3 own3 hnv hw1 hp1 C0 C1 C2 PT NM
  go_loopw [4] (fun u wj=>∃k:Nat,k≤nh∧u=.int .i64 k∧(r.head.terms.take k).any (ZcP (Zad r))=false∧Ext w3 wj) (fun u _=>nh-(intOf u).toNat)
  case atStart=>exact⟨0,by omega,rfl,by simp,Below.refl _ _⟩
  case round=>
   obtain⟨k,hk,rfl,hq,hE⟩:=hrel
   have HQ:=zh hq
   have HE:=zh hE
   have HEW:Hid (Ext w wr):=Zaa EW3.out hE
   have d1:=Zac hE D1.out
   clear hq hE
   by_cases hlt:k<nh
   ·have hki:(k:Int)<(nh:Int):=by omega
    obtain⟨t,bt,ot,hx,rfl,hc1,hc2,hc3⟩:=(HR.out.terms.keep HEW.out).2.at hlt
    have HXT:=zh hx
    have HTJ:Hid (r.head.terms.take (k+1)=r.head.terms.take k++[t]):=ZaA hx
    have ST:=zh (BD.out t wr HE.out)
    clear hx
    obtain⟨bs,hbs⟩:∃b,Zbz (Zad r) t false=b:=⟨_,rfl⟩
    have HBS:=zh hbs
    rw[hbs] at ST
    clear hbs
    cases bs with
    |false=>
     have HF:Hid (Zap r=111):=by
      show _=_
      rw[HT.out,if_pos (List.any_eq_true.2 ⟨t,zmg HXT.out,by unfold ZcP;rw[HBS.out];rfl⟩)]
     go_wp2_with (go_at_call 75;(with_reducible refine ST.out.mono ?_);rintro e w5 ⟨rfl,hb5⟩)
     go_returns
     exact⟨by rw[HF.out];rfl,Zaa HEW.out hb5⟩
    |true=>
     go_wp2_with (go_at_call 75;(with_reducible refine ST.out.mono ?_);rintro e w5 ⟨rfl,hb5⟩)
     go_roundw
     case rel=>exact⟨k+1,by omega,by go_num,by rw[HTJ.out,List.any_append,HQ.out];simp[ZcP,HBS.out],Zaa HE.out hb5⟩
     case measure=>simp[intOf];omega
   ·obtain rfl:k=nh:=by omega
    have hge:¬(k:Int)<(k:Int):=by omega
    have HT2:Hid (Zap r=if r.body.any (Zb2 (Zad r))=true then 111 else 0):=by
     have:=HQ.out
     rw[List.take_of_length_le (by have:=HLH.out;omega)] at this
     show _=_
     rw[HT.out,this,if_neg (by simp)]
    go_wp2
    go_loopw [5] (fun u wj=>∃k:Nat,k≤nb∧u=.int .i64 k∧(r.body.take k).any (Zb2 (Zad r))=false∧Ext w3 wj) (fun u _=>nb-(intOf u).toNat)
    case atStart=>exact⟨0,by omega,rfl,by simp,HE.out⟩
    case round=>
     obtain⟨m,hm,rfl,hq,hE⟩:=hrel
     have HQ2:=zh hq
     have HE2:=zh hE
     have HEW2:Hid (Ext w wr):=Zaa EW3.out hE
     have d2:=Zac hE D2.out
     clear hq hE
     by_cases hlm:m<nb
     ·have hmi:(m:Int)<(nb:Int):=by omega
      obtain⟨l,bl,off,hx,rfl,al,nl,cl,h0,h1,h2,h3,h4,h5,h6,h7,h8,h9,h10,h11,h12⟩:=(HR.out.body.keep HEW2.out).2.at hlm
      have HX:=zh hx
      have HTK:Hid (r.body.take (m+1)=r.body.take m++[l]):=ZaA hx
      obtain⟨WL,hWL⟩:∃W,wr.alloc (.cells #[.int .i64 l.kind,.string l.atom.pred,.slice al nl cl,.int .i64 l.op,.int .i64 l.left.kind,.string l.left.text,.int .i64 l.right.kind,.string l.right.text] 66)=W:=⟨_,rfl⟩
      have EL:Hid (Ext wr WL):=by show Ext _ _;rw[←hWL];exact Zab zbr _
      have LC:Hid (∀W,Ext WL W→W.cell? ⟨wr.heap.size,0,none⟩=some (.int .i64 l.kind)∧W.cell? ⟨wr.heap.size,2,none⟩=some (.slice al nl cl)∧W.cell? ⟨wr.heap.size,6,none⟩=some (.int .i64 l.right.kind)∧W.cell? ⟨wr.heap.size,7,none⟩=some (.string l.right.text)):=fun W hW=>by
       refine⟨Zac hW ?_,Zac hW ?_,Zac hW ?_,Zac hW ?_⟩ <;> (rw [←hWL];clear hWL hW EL;go_simp)
      have TM:Hid (Zaq wr al nl l.atom.terms):=h8
      have HNL:=zh h8.2.1
      have hnl:=h8.1
      have BAD:Hid (Zb2 (Zad r) l=true→Zap r=111):=fun h=>by rw[HT2.out,if_pos (List.any_eq_true.2 ⟨l,zmg HX.out,h⟩)]
      have OKL:Hid (Zb2 (Zad r) l=false→(r.body.take (m+1)).any (Zb2 (Zad r))=false):=fun h=>by rw[HTK.out,List.any_append,HQ2.out];simp[h]
      have BL:Hid (∀o,Calls Tryz.prog 75 #[Zd8 l.left,.slice av nv cv] (wr.alloc o) fun e w'=>e=.returned (.bool (Zbz (Zad r) l.left false))∧Ext (wr.alloc o) w'):=fun o=>BD.out l.left _ (Zab HE2.out o)
      have BR:Hid (∀W,Ext wr W→Calls Tryz.prog 75 #[Zd8 l.right,.slice av nv cv] W fun e w'=>e=.returned (.bool (Zbz (Zad r) l.right false))∧Ext W w'):=fun W hW=>BD.out l.right _ (Zaa HE2.out hW)
      clear h8 h9 h10 h11 h12 hx
      obtain⟨b3,e3⟩:∃b,(l.kind==3)=b:=⟨_,rfl⟩
      obtain⟨b2,e2⟩:∃b,(l.kind==2)=b:=⟨_,rfl⟩
      have K3:Hid (decide (l.kind=3)=b3):=by show _=_;rw[←e3];rfl
      have K2:Hid (decide (l.kind=2)=b2):=by show _=_;rw[←e2];rfl
      have HWL:=zh hWL
      clear hWL
      cases b3 with
      |true=>
       have hb2:b2=false:=by
        cases b2
        ·rfl
        ·have q1:=of_decide_eq_true K3.out
         have q2:=of_decide_eq_true K2.out
         omega
       subst hb2
       have NA:Hid (l.atom.terms.any (Zc0 (Zad r) l)=false):=by
        show _=_
        rw[List.any_eq_false]
        intro t _
        unfold Zc0
        rw[K2.out]
        simp
       obtain⟨q1,h1s⟩:∃q,Zbz (Zad r) l.left false=q:=⟨_,rfl⟩
       obtain⟨q2,h2s⟩:∃q,Zbz (Zad r) l.right false=q:=⟨_,rfl⟩
       have L3:Hid (Zb2 (Zad r) l=(!q1||!q2)):=by
        show _=_
        unfold Zb2 ZdW
        rw[NA.out,K3.out,h1s,h2s,Bool.true_and,Bool.or_false]
       rw[h1s] at BL
       rw[h2s] at BR
       clear h1s h2s
       by_cases hb:(!q1||!q2)=true
       ·have LF:Hid (Zap r=111):=BAD.out (L3.out.trans hb)
        have HB:=zh hb
        clear hb
        cases q1 <;> cases q2
        all_goals first
         |(exfalso;have:=HB.out;simp at this;done)
         |(go_wp2_with (first|(go_at_call 75;(with_reducible refine(BL.out _).mono ?_);rintro e w5 ⟨rfl,hb5⟩;rw[HWL.out] at hb5;obtain⟨n0,n2,n6,n7⟩:=LC.out _ hb5)|(go_at_call 75;(with_reducible refine(BR.out _ (Zaa EL.out hb5)).mono ?_);rintro e w6 ⟨rfl,hb6⟩;obtain⟨o0,o2,_,_⟩:=LC.out _ (Zaa hb5 hb6)))
           go_returns
           exact⟨by rw[LF.out];rfl,by first|exact Zaa (Zaa HEW2.out EL.out) hb5|exact Zaa (Zaa (Zaa HEW2.out EL.out) hb5) hb6⟩)
       ·obtain⟨rfl,rfl⟩:q1=true∧q2=true:=by revert hb;cases q1 <;> cases q2 <;> simp
        have LT:Hid (Zb2 (Zad r) l=false):=L3.out
        clear hb
        go_wp2_with (first|(go_at_call 75;(with_reducible refine(BL.out _).mono ?_);rintro e w5 ⟨rfl,hb5⟩;rw[HWL.out] at hb5;obtain⟨n0,n2,n6,n7⟩:=LC.out _ hb5)|(go_at_call 75;(with_reducible refine(BR.out _ (Zaa EL.out hb5)).mono ?_);rintro e w6 ⟨rfl,hb6⟩;obtain⟨o0,o2,_,_⟩:=LC.out _ (Zaa hb5 hb6)))
        go_loopw [7] (fun u wj=>u=.int .i64 0∧Ext WL wj) (fun u _=>0)
        case atStart=>exact⟨rfl,Zaa hb5 hb6⟩
        case round=>
         obtain⟨rfl,hE9⟩:=hrel
         have HE9:=zh hE9
         obtain⟨k0,k2,_,_⟩:=LC.out _ hE9
         clear hE9
         go_wp2
         go_roundw
         case rel=>exact⟨m+1,by omega,by go_num,OKL.out LT.out,Zaa (Zaa HE2.out EL.out) HE9.out⟩
         case measure=>simp[intOf];omega
      |false=>
       have NC:Hid (ZdW (Zad r) l=false):=by
        show _=_
        unfold ZdW
        rw[K3.out,Bool.false_and]
       have L3:Hid (Zb2 (Zad r) l=l.atom.terms.any (Zc0 (Zad r) l)):=by
        show _=_
        unfold Zb2
        rw[NC.out,Bool.false_or]
       obtain⟨z0,z2,_,_⟩:=LC.out _ (Below.refl _ WL)
       cases b2 with
       |false=>
        have LT:Hid (Zb2 (Zad r) l=false):=by
         show _=_
         rw[L3.out,List.any_eq_false]
         intro t _
         unfold Zc0
         rw[K2.out]
         simp
        go_wp2
        rw[HWL.out]
        go_loopw [7] (fun u wj=>u=.int .i64 0∧Ext WL wj) (fun u _=>0)
        case atStart=>exact⟨rfl,Below.refl _ _⟩
        case round=>
         obtain⟨rfl,hE9⟩:=hrel
         have HE9:=zh hE9
         obtain⟨k0,k2,_,_⟩:=LC.out _ hE9
         clear hE9
         go_wp2
         go_roundw
         case rel=>exact⟨m+1,by omega,by go_num,OKL.out LT.out,Zaa (Zaa HE2.out EL.out) HE9.out⟩
         case measure=>simp[intOf];omega
       |true=>
        go_wp2
        rw[HWL.out]
        go_loopw [7] (fun u wj=>∃q:Nat,q≤nl∧u=.int .i64 q∧(l.atom.terms.take q).any (Zc0 (Zad r) l)=false∧Ext WL wj) (fun u _=>nl-(intOf u).toNat)
        case atStart=>exact⟨0,by omega,rfl,by simp,Below.refl _ _⟩
        case round=>
         obtain⟨q,hq9,rfl,hqq,hE9⟩:=hrel
         have HE9:=zh hE9
         have HQ9:=zh hqq
         have EX9:=zh (Zaa (Zaa HE2.out EL.out) hE9)
         obtain⟨k0,k2,_,_⟩:=LC.out _ hE9
         clear hE9 hqq
         by_cases hlq:q<nl
         ·have hqi:(q:Int)<(nl:Int):=by omega
          obtain⟨t,bt,ot,hx,rfl,hc1,hc2,hc3⟩:=(TM.out.keep (Zaa EL.out HE9.out)).2.at hlq
          have HXT:=zh hx
          have HTJ:Hid (l.atom.terms.take (q+1)=l.atom.terms.take q++[t]):=ZaA hx
          have HT9:Hid (∀o,Calls Tryz.prog 76 #[.slice av nv cv,.string t.text] (wr.alloc o) fun e w'=>e=.returned (.bool (decide (t.text∈Zad r)))∧w'=wr.alloc o):=fun o=>HS.out t.text _ (Zab EX9.out o)
          have EA9:Hid (∀o,Ext WL (wr.alloc o)∧Ext w (wr.alloc o)):=fun o=>⟨Zab HE9.out o,Zaa EW3.out (Zab EX9.out o)⟩
          clear hx
          obtain⟨c1,hk1⟩:∃b,(t.kind==1)=b:=⟨_,rfl⟩
          obtain⟨c2,hk2⟩:∃b,decide (t.text∈Zad r)=b:=⟨_,rfl⟩
          have BN:Hid (Zc0 (Zad r) l t=(c1&&!c2)):=by
           show _=_
           unfold Zc0
           rw[K2.out,Bool.true_and,hk2,←hk1]
           rfl
          rw[hk2] at HT9
          clear hk2
          cases c1 <;> cases c2
          case true.false=>
           have HF:Hid (Zap r=111):=BAD.out (by rw[L3.out];exact List.any_eq_true.2 ⟨t,zmg HXT.out,BN.out⟩)
           go_wp2_with (go_at_call 76;(with_reducible refine(HT9.out _).mono ?_);rintro e w5 ⟨rfl,hw5⟩;obtain rfl:=hw5.symm)
           go_returns
           exact⟨by rw[HF.out];rfl,(EA9.out _).2⟩
          all_goals
           go_wp2_with (go_at_call 76;(with_reducible refine(HT9.out _).mono ?_);rintro e w5 ⟨rfl,hw5⟩;obtain rfl:=hw5.symm)
           go_roundw
           case rel=>exact⟨q+1,by omega,by go_num,by rw[HTJ.out,List.any_append,HQ9.out];simp[BN.out],(EA9.out _).1⟩
           case measure=>simp[intOf];omega
         ·obtain rfl:q=nl:=by omega
          have hge9:¬(q:Int)<(q:Int):=by omega
          have LT:Hid (Zb2 (Zad r) l=false):=by
           have:=HQ9.out
           rw[List.take_of_length_le (by have:=HNL.out;omega)] at this
           show _=_
           rw[L3.out,this]
          go_wp2
          go_roundw
          case rel=>exact⟨m+1,by omega,by go_num,OKL.out LT.out,EX9.out⟩
          case measure=>simp[intOf];omega
     ·obtain rfl:m=nb:=by omega
      have hge2:¬(m:Int)<(m:Int):=by omega
      have HF:Hid (Zap r=0):=by
       have:=HQ2.out
       rw[List.take_of_length_le (by have:=HLB.out;omega)] at this
       show _=_
       rw[HT2.out,this,if_neg (by simp)]
      go_wp2
      go_returns
      exact⟨by rw[HF.out];rfl,HEW2.out⟩
