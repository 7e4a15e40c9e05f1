/- The document's note (layer 14): constants among terms into a map. -/
import Derived.Test.YtjfbjjmiobgjfaaGreatG39
import Derived.Test.YtjfbjjmiobgjfaaGreatG42
import Derived.Test.YtjfbjjmiobgjfaaGreatG43
set_option maxRecDepth 100000
set_option maxHeartbeats 8000000
namespace Go.Proofs.YtjfbjjmiobgjfaaGreat
open ChangeShapes WideShapes ChangeAt RowKit
open K (ZaG Zda ZaQ Zaq Zbl ZaR Zbw Zcm)
def Zgp (W:World)(mb:Nat)(ins:List ByteArray):Prop:=∃f,K.ZhA W mb f∧∀k,f k≠none↔k∈ins
theorem Zgp.ext {W W':World}{mb:Nat}{ins:List ByteArray}(h:Zgp W mb ins)(e:Ext W W'):Zgp W' mb ins:=by
 obtain⟨f,h1,h2⟩:=h
 exact⟨f,h1.ext e,h2⟩
theorem Zgp.lt {W:World}{mb:Nat}{ins:List ByteArray}(h:Zgp W mb ins):mb<W.heap.size:=by
 obtain⟨f,h1,_⟩:=h
 exact h1.lt
theorem Zgp.put {W:World}{mb:Nat}{ins:List ByteArray}(h:Zgp W mb ins)(k:ByteArray)(v:Value):∃o,(Instr.mapUpdate 151 (.map (some mb)) (.string k) v).run Tryz.prog W=.ok () (K.Zdn W mb o)∧Zgp (K.Zdn W mb o) mb (k::ins)∧Zah (fun b=>b=mb) W (K.Zdn W mb o):=by
 obtain⟨f,h1,h2⟩:=h
 obtain⟨o,q1,q2⟩:=K.ZnD (P:=Tryz.prog) (t:=151) h1 Tryz.underlying151 Tryz.underlying9 k v
 refine⟨o,q1,⟨_,q2,fun x=>?_⟩,(Zah.refl _ W).grown (K.Zgm W mb o) (fun b e=>.inl (by cases e;rfl))⟩
 unfold K.upd
 rw[List.mem_cons]
 by_cases hx:x=k
 ·simp[hx]
 ·rw[if_neg hx,h2]
  simp[hx]
theorem Zgp.len {W:World}{mb:Nat}{ins:List ByteArray}(h:Zgp W mb ins):∃C:List ByteArray,C.length≤ins.length∧(∀k∈ins,k∈C)∧∀ty,(Builtin.len_ #[151] ty #[.map (some mb)]).run Tryz.prog W=.ok (.int .i64 (C.length:Nat)) W:=by
 obtain⟨f,⟨es,clock,h1,h2,h3,h4⟩,hf⟩:=h
 have hkey:∀x∈es.toList,x.key=.string (kb x):=fun x hx=>by
  obtain⟨s,hs⟩:=h2.1 x hx
  have e:kb x=s:=by unfold kb;rw[hs]
  rw[e];exact hs
 have hnd:(es.toList.map kb).Nodup:=by
  have:=h2.2
  rw[List.Nodup,List.pairwise_map] at this ⊢
  exact this.imp_of_mem fun {a b} ha hb hab e=>hab (by rw[hkey a ha,hkey b hb,e])
 refine⟨es.toList.map kb,Zeg hnd fun x hx=>?_,fun k hk=>?_,fun ty=>?_⟩
 ·obtain⟨y,hy,rfl⟩:=List.mem_map.1 hx
  rw[←hf,h3]
  exact K.Zgz h2.1 hy (hkey y hy)
 ·have:=(hf k).2 hk
  rw[h3] at this
  obtain⟨v,hv⟩:=Option.ne_none_iff_exists'.1 this
  obtain⟨y,hy,q⟩:=K.ZgA hv
  refine List.mem_map.2 ⟨y,hy,?_⟩
  unfold kb
  rw[q]
 ·rw[List.length_map]
  have e:es.toList.length=es.size:=by simp
  rw[e]
  exact run_len_map W _ ty mb es clock (by kernel_rfl) h1
theorem Zur (ts:List ZaG)(at_:Option Addr)(nt ct:Nat)(mb:Nat)(ins:List ByteArray)(w:World)(ht:Zaq w at_ nt ts)(hm:Zgp w mb ins):
  Calls Tryz.prog 93 #[.map (some mb),.slice at_ nt ct] w fun e w'=>(∃v,e=.returned v)∧Zah (fun b=>b=mb) w w'∧∃ins',Zgp w' mb ins'∧(∀k∈ins,k∈ins')∧ins'.length≤ins.length+nt:=by
 have HT:=zh ht
 have HM:=zh hm
 have hn:=ht.1
 have TM:Hid (∀k,k<nt→∃b o x y,at_=some ⟨b,o,none⟩∧w.cell? ⟨b,o+k*2,none⟩=some (.int .i64 x)∧w.cell? ⟨b,o+k*2+1,none⟩=some (.string y)∧b≠mb):=fun k hk=>by
  obtain⟨t,b,o,_,rfl,h1,h2,_⟩:=HT.out.2.at hk
  refine⟨b,o,_,_,rfl,h1,h2,fun e=>?_⟩
  obtain⟨f,⟨es,clock,q1,_⟩,_⟩:=hm
  rw[e] at h1
  simp[World.cell?,q1] at h1
 clear ht hm
 go_enter Tryz.func93,Tryz.ntmps93
 go_wp2
 go_loopw [4] (fun i wj=>∃(k:Nat) (ins':List ByteArray),k≤nt∧i=.int .i64 (k:Int)∧Zah (fun b=>b=mb) w wj∧Zgp wj mb ins'∧(∀k∈ins,k∈ins')∧ins'.length≤ins.length+k) (fun i _=>nt-(intOf i).toNat)
 case atStart=>exact⟨0,ins,by omega,rfl,Zah.refl _ _,HM.out,fun _ h=>h,by omega⟩
 case round=>
  obtain⟨k,ins',hk,rfl,hb,hm,hi,hl⟩:=hrel
  have HB:=zh hb
  have HI:=zh hi
  have HL:=zh hl
  have HMK:=zh hm
  by_cases hlt:k<nt
  ·obtain⟨b,o,x,y,rfl,h1,h2,hne⟩:=TM.out k hlt
   have g1:=hb.cell hne h1
   have g2:=hb.cell hne h2
   have hki:(k:Int)<(nt:Int):=by omega
   obtain⟨ob,hrun,hk2,hb2⟩:=hm.put y (.int .i64 1)
   have HK2:=zh hk2
   have HB2:=zh hb2
   clear h1 h2 hb hm hi hl hk2 hb2
   obtain⟨q,hq⟩:∃q,(x==3)=q:=⟨_,rfl⟩
   cases q with
   |true=>
    go_wp2
    go_roundw
    case rel=>exact⟨k+1,_,by omega,by go_num,HB.out.trans HB2.out,HK2.out,fun z hz=>List.mem_cons_of_mem _ (HI.out z hz),by rw[List.length_cons];have:=HL.out;omega⟩
    case measure=>simp[intOf];omega
   |false=>
    go_wp2
    go_roundw
    case rel=>exact⟨k+1,_,by omega,by go_num,HB.out,HMK.out,HI.out,by have:=HL.out;omega⟩
    case measure=>simp[intOf];omega
  ·obtain rfl:k=nt:=by omega
   have hge:¬(k:Int)<(k:Int):=by omega
   go_wp2
   first|(go_end0;exact⟨⟨_,rfl⟩,HB.out,ins',HMK.out,HI.out,HL.out⟩)|(go_returns;exact⟨⟨_,rfl⟩,HB.out,ins',HMK.out,HI.out,HL.out⟩)
structure CnSt (w:World)(mb:Nat)(W:World)(ins:List ByteArray):Prop where
 ext:Ext w W
 lo:w.heap.size≤mb
 key:Zgp W mb ins
theorem Zgp.ne {W:World}{mb b o:Nat}{ins:List ByteArray}{v:Value}(h:Zgp W mb ins)(hc:W.cell? ⟨b,o,none⟩=some v):b≠mb:=fun e=>by
 obtain⟨f,⟨es,clock,q1,_⟩,_⟩:=h
 rw[e] at hc
 simp[World.cell?,q1] at hc
theorem ZoY (W:World)(x y:ZaG)(hx:x.text.size≤maxLen)(hy:y.text.size≤maxLen):Zaq (W.alloc (.cells #[.int .i64 x.kind,.string x.text,.int .i64 y.kind,.string y.text] 64)).drew (some ⟨W.heap.size,0,none⟩) 2 [x,y]:=by
 refine⟨by decide,by rfl,fun i z hz=>?_⟩
 match i,hz with
 |0,hz=>
  cases hz
  exact⟨_,_,rfl,by rw[World.cell?_drew];go_simp,by rw[World.cell?_drew];go_simp,hx⟩
 |1,hz=>
  cases hz
  exact⟨_,_,rfl,by rw[World.cell?_drew];go_simp,by rw[World.cell?_drew];go_simp,hy⟩
 |i+2,hz=>simp at hz
def InR (xs:List Zb3)(ins:List ByteArray):Prop:=∀x∈xs,∀q∈x.rows,∀y∈q,y∈ins
theorem Zgq (xs ys:List Zb3):ZaZ (xs++ys)=ZaZ xs+ZaZ ys:=by simp[ZaZ]
theorem Zh5 (xs:List Zb3)(k:Nat):ZaZ (xs.take k)≤ZaZ xs:=by
 have:=Zgq (xs.take k) (xs.drop k)
 rw[List.take_append_drop] at this
 omega
theorem Zl2 {xs:List Zb3}{k:Nat}{x:Zb3}(h:xs[k]? =some x):ZaZ (xs.take (k+1))=ZaZ (xs.take k)+x.rows.length:=by
 rw[ZaA h,Zgq]
 simp[ZaZ]
theorem InR.at {xs:List Zb3}{k:Nat}{x:Zb3}{ins:List ByteArray}(h:xs[k]? =some x)(h1:InR (xs.take k) ins)(h2:∀q∈x.rows,∀y∈q,y∈ins):InR (xs.take (k+1)) ins:=by
 rw[ZaA h]
 intro z hz
 rcases List.mem_append.1 hz with hz|hz
 ·exact h1 z hz
 ·cases List.mem_singleton.1 hz
  exact h2
theorem ZoZ {α:Type}{P:α→Prop}{l:List α}{k:Nat}{x:α}(h:l[k]? =some x)(h1:∀y∈l.take k,P y)(h2:P x):∀y∈l.take (k+1),P y:=by
 rw[ZaA h]
 intro z hz
 rcases List.mem_append.1 hz with hz|hz
 ·exact h1 z hz
 ·cases List.mem_singleton.1 hz
  exact h2
theorem ZkQ (r:ZaQ)(ah:Option Addr)(nh ch:Nat)(ab:Option Addr)(nb cb gr cg:Nat)(xs:List Zb3)(a:Option Addr)(n c:Nat)(w:World)(g0:w.cell? ⟨gr,0,none⟩=some (.string r.head.pred))(g1:w.cell? ⟨gr,1,none⟩=some (.slice ah nh ch))(g2:w.cell? ⟨gr,2,none⟩=some (.slice ab nb cb))(hr:ZaR w r ah nh ch ab nb cb)(hnb:nb≤6)(h:Zc2 w a n xs)(hrn:ZaZ xs≤400):
  Calls Tryz.prog 45 #[.agg #[.slice (some ⟨gr,0,none⟩) 1 cg],.slice a n c] w fun e w'=>∃(C:List ByteArray) (N:Int),e=.returned (.int .i64 N)∧Ext w w'∧InR xs C∧(C.length:Int)≤N∧N≤4611686018427387904:=by
 have hmm:=@run_makeMap Tryz.prog
 have HR:=zh hr
 have HX:=zh h
 have HN:=zh h.1
 have HRN:=zh hrn
 have HH:=zh hr.terms.1
 have G:Hid (∀W,Ext w W→W.cell? ⟨gr,0,none⟩=some (.string r.head.pred)∧W.cell? ⟨gr,1,none⟩=some (.slice ah nh ch)∧W.cell? ⟨gr,2,none⟩=some (.slice ab nb cb)):=fun W e=>⟨Zac e g0,Zac e g1,Zac e g2⟩
 clear hr h hrn g0 g1 g2
 go_enter Tryz.func45,Tryz.ntmps45
 go_wp2
 refine Zba (fun W hW=>?_)
 obtain⟨p0,hp0⟩:∃p0,w.heap.size=p0:=⟨_,rfl⟩
 have S0:Hid (CnSt w (p0+1) W []∧W.cell? ⟨p0,0,none⟩=some (.slice (some ⟨gr,0,none⟩) 1 cg)):=by
  have:=K.ZhA.made (w.alloc (.cells #[.slice (some ⟨gr,0,none⟩) 1 cg] 33))
  rw[hW,←hp0]
  refine⟨⟨Zab (Zab zbr _) _,Nat.le_succ _,⟨_,by simpa using this,fun k=>by simp⟩⟩,?_⟩
  go_simp
 rw[hp0] at*
 clear hW hmm
 obtain⟨mb,hmb⟩:∃mb,p0+1=mb:=⟨_,rfl⟩
 have HMB:Hid (p0≠mb):=by show _≠_;omega
 rw[hmb] at S0 ⊢
 clear hmb hp0
 have KP:Hid (∀W',Zah (fun b=>b=mb) W W'→W'.cell? ⟨p0,0,none⟩=some (.slice (some ⟨gr,0,none⟩) 1 cg)∧Ext w W'):=fun W' e=>⟨e.cell HMB.out S0.out.2,Zaw S0.out.1.ext e (fun b hb h'=>by have:=S0.out.1.lo;omega)⟩
 have NT:Hid (∀(ts:List ZaG) (at_:Option Addr) (nt ct:Nat) (ins:List ByteArray) (w':World),Zaq w' at_ nt ts→Zgp w' mb ins→Calls Tryz.prog 93 #[.map (some mb),.slice at_ nt ct] w' fun e w2=>(∃v,e=.returned v)∧Zah (fun b=>b=mb) w' w2∧∃ins',Zgp w2 mb ins'∧(∀k∈ins,k∈ins')∧ins'.length≤ins.length+nt):=fun ts at_ nt ct ins w' h1 h2=>Zur ts at_ nt ct mb ins w' h1 h2
 go_loopw [6,7] (fun nv i wj=>∃(k:Nat) (N:Int) (ins:List ByteArray),k≤1∧nv=.int .i64 N∧i=.int .i64 (k:Int)∧0≤N∧N≤5864062014634∧(k=0→N=0∧ins=[])∧Zah (fun b=>b=mb) W wj∧Zgp wj mb ins∧ins.length≤50000000000000) (fun _ i _=>1-(intOf i).toNat)
 case atStart=>exact⟨0,0,[],by omega,rfl,rfl,by omega,by omega,fun _=>⟨rfl,rfl⟩,Zah.refl _ _,S0.out.1.key,by simp⟩
 case round=>
  obtain⟨k,N,ins,hk,rfl,rfl,hN0,hN,hz,hb,hm,hl⟩:=hrel
  have HB:=zh hb
  have HM:=zh hm
  have HL:=zh hl
  have x0:=(KP.out _ hb).1
  by_cases hlt:k<1
  ·obtain rfl:k=0:=by omega
   obtain⟨rfl,rfl⟩:=hz rfl
   obtain⟨y0,y1,y2⟩:=G.out _ (KP.out _ hb).2
   clear hz hb hm hl hN0 hN
   go_upto_region 7 with (fail)
   refine Zba (fun W8 hW8=>?_)
   have E8:Hid (Ext w W8∧Zah (fun b=>b=mb) W W8):=by
    rw[hW8]
    exact⟨Zab (KP.out _ HB.out).2 _,HB.out.ext (Zab zbr _)⟩
   obtain⟨p8,hp8⟩:∃p,wr.heap.size=p:=⟨_,rfl⟩
   have HNE:Hid (p8≠mb):=by show _≠_;have:=HM.out.lt;omega
   have M8:Hid (Zgp W8 mb []):=by rw[hW8];exact HM.out.ext (Zab zbr _)
   have C8:Hid (W8.cell? ⟨p8,1,none⟩=some (.slice ah nh ch)∧W8.cell? ⟨p8,2,none⟩=some (.slice ab nb cb)):=by
    rw[←hp8,hW8]
    exact⟨by go_simp,by go_simp⟩
   rw[hp8]
   clear hW8 hp8 x0 y0 y1 y2
   have z1:=C8.out.1
   have NT1:=zh (NT.out _ _ _ ch [] _ (HR.out.terms.keep E8.out.1) M8.out)
   go_wp2_with (go_at_call 93;(with_reducible refine NT1.out.mono ?_);rintro e w1 ⟨⟨v,rfl⟩,b1,ins1,k1,_,l1⟩)
   have B1:=zh b1
   have K1:=zh k1
   have L1:Hid (ins1.length≤nh):=by show _≤_;simpa using l1
   have KB:Hid (∀W',Zah (fun b=>b=mb) w1 W'→W'.cell? ⟨p8,1,none⟩=some (.slice ah nh ch)∧W'.cell? ⟨p8,2,none⟩=some (.slice ab nb cb)∧Zah (fun b=>b=mb) W W'∧Ext w W'):=fun W' e=>⟨(B1.out.trans e).cell HNE.out C8.out.1,(B1.out.trans e).cell HNE.out C8.out.2,(E8.out.2.trans B1.out).trans e,(KP.out _ ((E8.out.2.trans B1.out).trans e)).2⟩
   clear b1 k1 l1 z1 NT1
   have hh:=HH.out
   go_loopw [6,9] (fun nv i wj=>∃(k:Nat) (N:Int),k≤nh∧nv=.int .i64 N∧i=.int .i64 (k:Int)∧0≤N∧N≤(k:Int)∧Ext w1 wj) (fun _ i _=>nh-(intOf i).toNat)
   case atStart=>exact⟨0,0,by omega,rfl,rfl,by omega,by omega,Below.refl _ _⟩
   case round=>
    obtain⟨k,N,hk,rfl,rfl,hN0,hN,he⟩:=hrel
    have EE:=zh he
    have N0:=zh hN0
    have NK:=zh hN
    have z1:=(KB.out _ ((Zah.refl _ _).ext he)).1
    by_cases hlt:k<nh
    ·obtain⟨t,b,o,_,rfl,h1,h2,_⟩:=(HR.out.terms.keep (KB.out _ ((Zah.refl _ _).ext he)).2.2.2).2.at hlt
     have hki:(k:Int)<(nh:Int):=by omega
     obtain⟨q,hq⟩:∃q,decide ((4:Int)≤t.kind)=q:=⟨_,rfl⟩
     clear he
     cases q with
     |true=>
      go_wp2
      go_roundw
      case rel=>exact⟨k+1,N+1,by omega,by go_num,by go_num,by have:=N0.out;omega,by have:=NK.out;omega,EE.out⟩
      case measure=>simp[intOf];omega
     |false=>
      go_wp2
      go_roundw
      case rel=>exact⟨k+1,N,by omega,rfl,by go_num,N0.out,by have:=NK.out;omega,EE.out⟩
      case measure=>simp[intOf];omega
    ·obtain rfl:k=nh:=by omega
     have hge:¬(k:Int)<(k:Int):=by omega
     have NN:Hid (0≤N∧N≤5864062014634):=⟨N0.out,by have:=NK.out;have:=HH.out;omega⟩
     have BB0:Hid (Zah (fun b=>b=mb) w1 wr):=(Zah.refl _ _).ext EE.out
     have KM0:Hid (Zgp wr mb ins1):=K1.out.ext EE.out
     clear he hN hN0 EE N0 NK
     go_wp2
     go_loopw [10] (fun i wj=>∃(k:Nat) (ins:List ByteArray),k≤nb∧i=.int .i64 (k:Int)∧Zah (fun b=>b=mb) w1 wj∧Zgp wj mb ins∧ins.length≤5864062014634+k*5864062014636) (fun i _=>nb-(intOf i).toNat)
     case atStart=>exact⟨0,ins1,by omega,rfl,BB0.out,KM0.out,by have:=L1.out;have:=HH.out;omega⟩
     case round=>
      obtain⟨j,ins,hj,rfl,hb,hm,hl⟩:=hrel
      have HB2:=zh hb
      have HM2:=zh hm
      have HL2:=zh hl
      have z2:=(KB.out _ hb).2.1
      by_cases hlt:j<nb
      ·obtain⟨l,b,o,_,rfl,al,nl,cl,h0,h1,h2,h3,h4,h5,h6,h7,ht,_,_,q1,q2⟩:=(HR.out.body.keep (KB.out _ hb).2.2.2).2.at hlt
       have hji:(j:Int)<(nb:Int):=by omega
       have HT2:=zh ht
       have NT2:=zh (NT.out _ _ _ cl ins _ ht hm)
       clear hb hm hl ht
       go_wp2_with (go_at_call 93;(with_reducible refine NT2.out.mono ?_);rintro e w2 ⟨⟨v,rfl⟩,b2,ins2,k2,_,l2⟩)
       have hne:=HM2.out.ne h0
       have f4:=b2.cell hne h4
       have f5:=b2.cell hne h5
       have f6:=b2.cell hne h6
       have f7:=b2.cell hne h7
       have z3:=(KB.out _ (HB2.out.trans b2)).2.1
       have B2:=zh b2
       have K2:=zh k2
       have L2:=zh l2
       have NLT:=zh HT2.out.1
       clear h0 h1 h2 h3 h4 h5 h6 h7 b2 k2 l2 z2
       refine Zba fun W9 hW9=>?_
       rw[←hW9] at f4 f5 f6 f7 z3
       have E9:Hid (W9=w2):=hW9
       clear hW9
       have EX9:Hid (Zah (fun b=>b=mb) w1 W9∧Zgp W9 mb ins2):=by rw[E9.out];exact⟨HB2.out.trans B2.out,K2.out⟩
       have EA:Hid (Ext W9 (W9.alloc (.cells #[.int .i64 l.left.kind,.string l.left.text,.int .i64 l.right.kind,.string l.right.text] 64)).drew):=Zaf (Zab (Below.refl _ W9) _)
       have NT3:=zh (NT.out _ _ _ 2 ins2 _ (ZoY W9 l.left l.right q1 q2) (EX9.out.2.ext EA.out))
       have g3:=Zac EA.out z3
       have g4:=Zac EA.out f4
       have g5:=Zac EA.out f5
       have g6:=Zac EA.out f6
       have g7:=Zac EA.out f7
       go_region_held3 (fun w'=>w'.cell? ⟨p8,2,none⟩=some (.slice (some ⟨b,o,none⟩) nb cb)∧w'.cell? ⟨b,o+j*8+4,none⟩=some (.int .i64 l.left.kind)∧w'.cell? ⟨b,o+j*8+5,none⟩=some (.string l.left.text)∧w'.cell? ⟨b,o+j*8+6,none⟩=some (.int .i64 l.right.kind)∧w'.cell? ⟨b,o+j*8+7,none⟩=some (.string l.right.text))
        (with_reducible (first|go_keep|exact⟨b3.cell HNE.out g3,b3.cell hne g4,b3.cell hne g5,b3.cell hne g6,b3.cell hne g7⟩|fail))
        (first
         |(go_at_call 93;(with_reducible refine NT3.out.mono ?_);rintro e w3 ⟨⟨v,rfl⟩,b3,ins3,k3,_,l3⟩)
         |fail)
       have BB3:Hid (Zah (fun b=>b=mb) w1 w3):=(EX9.out.1.ext EA.out).trans b3
       have KM3:=zh k3
       have LL3:Hid (ins3.length≤5864062014634+(j+1)*5864062014636):=by
        show _≤_
        have:=L2.out
        have:=HL2.out
        have:=NLT.out
        omega
       clear b3 k3 l3 g3 g4 g5 g6 g7 f4 f5 f6 f7 z3
       go_wp2
       go_roundw
       case rel=>exact⟨j+1,ins3,by omega,by go_num,BB3.out,KM3.out,LL3.out⟩
       case measure=>simp[intOf];omega
      ·obtain rfl:j=nb:=by omega
       have hge:¬(j:Int)<(j:Int):=by omega
       clear hb hm hl
       go_wp2
       go_roundw
       case rel=>exact⟨1,N,ins,by omega,rfl,rfl,NN.out.1,NN.out.2,fun e=>by omega,(KB.out _ HB2.out).2.2.1,HM2.out,by have:=HL2.out;omega⟩
       case measure=>simp[intOf]
  ·obtain rfl:k=1:=by omega
   have NB:=zh hN
   have N0:=zh hN0
   have hnn:n≤9223372036854775807:=HN.out
   clear hz hb hm hl hN0 hN
   go_wp2
   go_loopw [11] (fun i wj=>∃(k:Nat) (ins:List ByteArray),k≤n∧i=.int .i64 (k:Int)∧Zah (fun b=>b=mb) W wj∧Zgp wj mb ins∧InR (xs.take k) ins∧ins.length≤50000000000000+ZaZ (xs.take k)*8796093022207) (fun i _=>n-(intOf i).toNat)
   case atStart=>exact⟨0,ins,by omega,rfl,HB.out,HM.out,fun x hx=>by simp at hx,by have:=HL.out;omega⟩
   case round=>
    obtain⟨k,ins,hk,rfl,hb,hm,hi,hl⟩:=hrel
    have HB:=zh hb
    have HM:=zh hm
    have HI:=zh hi
    have HL:=zh hl
    have EW:=zh (KP.out _ hb).2
    clear hb hm hi hl
    by_cases hlt:k<n
    ·obtain⟨x,b,o,hx,rfl,_,_,ar,nr,cr,f3,g4,g5⟩:=HX.out.2.at hlt
     have hki:(k:Int)<(n:Int):=by omega
     have FX:Hid (∀W',Ext w W'→W'.cell? ⟨b,o+k*3+2,none⟩=some (.slice ar nr cr)):=fun W' e=>Zac e f3
     have HXX:=zh hx
     have G5:=zh g5
     have hnr:nr≤9223372036854775807:=g4
     obtain⟨B,hB⟩:∃B,B=50000000000000+ZaZ (xs.take k)*8796093022207:=⟨_,rfl⟩
     have HBB:Hid (ins.length≤B):=by show _≤_;rw[hB];exact HL.out
     have HBE:Hid (B=50000000000000+ZaZ (xs.take k)*8796093022207):=hB
     clear hx f3 g4 g5 HL hB
     go_wp2
     go_loopw [12] (fun i wj=>∃(j:Nat) (ins:List ByteArray),j≤nr∧i=.int .i64 (j:Int)∧Zah (fun b=>b=mb) W wj∧Zgp wj mb ins∧InR (xs.take k) ins∧(∀q∈x.rows.take j,∀y∈q,y∈ins)∧ins.length≤B+j*8796093022207) (fun i _=>nr-(intOf i).toNat)
     case atStart=>exact⟨0,ins,by omega,rfl,HB.out,HM.out,HI.out,fun x hx=>by simp at hx,by have:=HBB.out;omega⟩
     case round=>
      obtain⟨j,ins,hj,rfl,hb,hm,hi,hq,hl⟩:=hrel
      have HB:=zh hb
      have HM:=zh hm
      have HI:=zh hi
      have HQ:=zh hq
      have HL:=zh hl
      have EW:=zh (KP.out _ hb).2
      have k3:=FX.out _ EW.out
      clear hb hm hi hq hl
      by_cases hlt:j<nr
      ·obtain⟨q,b2,o2,hq,rfl,aq,nq,cq,f1,f2,_,f4⟩:=G5.out.at hlt
       have hji:(j:Int)<(nr:Int):=by omega
       have FQ:Hid (∀W',Ext w W'→W'.cell? ⟨b2,o2+j,none⟩=some (.slice aq nq cq)):=fun W' e=>Zac e (by rw[Nat.mul_one] at f1;exact f1)
       have F2:=zh f2
       have F4:=zh f4
       have HQQ:=zh hq
       have k4:=FQ.out _ EW.out
       obtain⟨B2,hB2⟩:∃B2,B2=B+j*8796093022207:=⟨_,rfl⟩
       have HB2:Hid (ins.length≤B2):=by show _≤_;rw[hB2];exact HL.out
       have HBE2:Hid (B2=B+j*8796093022207):=hB2
       have hnq:nq≤9223372036854775807:=by omega
       clear hq f1 f2 f4 HL hB2
       go_wp2
       go_loopw [13] (fun i wj=>∃(m:Nat) (ins:List ByteArray),m≤nq∧i=.int .i64 (m:Int)∧Zah (fun b=>b=mb) W wj∧Zgp wj mb ins∧InR (xs.take k) ins∧(∀q∈x.rows.take j,∀y∈q,y∈ins)∧(∀y∈q.take m,y∈ins)∧ins.length≤B2+m) (fun i _=>nq-(intOf i).toNat)
       case atStart=>exact⟨0,ins,by omega,rfl,HB.out,HM.out,HI.out,HQ.out,fun x hx=>by simp at hx,by have:=HB2.out;omega⟩
       case round=>
        obtain⟨m,ins,hm1,rfl,hb,hm,hi,hq,hy,hl⟩:=hrel
        have HB:=zh hb
        have HM:=zh hm
        have HI:=zh hi
        have HQ:=zh hq
        have HY:=zh hy
        have HL:=zh hl
        have EW:=zh (KP.out _ hb).2
        have k5:=FX.out _ EW.out
        have k6:=FQ.out _ EW.out
        clear hb hm hi hq hy hl
        by_cases hlt:m<nq
        ·obtain⟨y,b3,o3,hy,rfl,hc⟩:=F2.out.2.at hlt
         have hmi:(m:Int)<(nq:Int):=by omega
         have k7:wr.cell? ⟨b3,o3+m,none⟩=some (.string y):=Zac EW.out (by have:w.cell? ⟨b3,o3+m*1,none⟩=some (.string y):=hc;rw[Nat.mul_one] at this;exact this)
         have HYY:=zh hy
         obtain⟨ob,hrun,hk2,hb2⟩:=HM.out.put y (.int .i64 1)
         have HK2:=zh hk2
         have HBB2:=zh hb2
         clear hy hc hk2 hb2
         go_wp2
         go_roundw
         case rel=>exact⟨m+1,_,by omega,by go_num,HB.out.trans HBB2.out,HK2.out,fun x hx q hq z hz=>List.mem_cons_of_mem _ (HI.out x hx q hq z hz),fun q hq z hz=>List.mem_cons_of_mem _ (HQ.out q hq z hz),ZoZ HYY.out (fun z hz=>List.mem_cons_of_mem _ (HY.out z hz)) List.mem_cons_self,by have:=HL.out;rw[List.length_cons];omega⟩
         case measure=>simp[intOf];omega
        ·obtain rfl:m=nq:=by omega
         have hge:¬(m:Int)<(m:Int):=by omega
         have HAL:Hid (∀y∈q,y∈ins):=by
          have:=HY.out
          rwa [List.take_of_length_le (by rw[F2.out.2.1];exact Nat.le_refl _)] at this
         go_wp2
         go_roundw
         case rel=>exact⟨j+1,ins,by omega,by go_num,HB.out,HM.out,HI.out,ZoZ HQQ.out HQ.out HAL.out,by have:=HL.out;have:=HBE2.out;have:=F4.out;omega⟩
         case measure=>simp[intOf];omega
      ·obtain rfl:j=nr:=by omega
       have hge:¬(j:Int)<(j:Int):=by omega
       have HAL:Hid (∀q∈x.rows,∀y∈q,y∈ins):=by
        have:=HQ.out
        rwa [List.take_of_length_le (by rw[G5.out.1];exact Nat.le_refl _)] at this
       go_wp2
       go_roundw
       case rel=>exact⟨k+1,ins,by omega,by go_num,HB.out,HM.out,HI.out.at HXX.out HAL.out,by rw[Zl2 HXX.out,G5.out.1];have:=HL.out;have:=HBE.out;omega⟩
       case measure=>simp[intOf];omega
    ·obtain rfl:k=n:=by omega
     have hge:¬(k:Int)<(k:Int):=by omega
     obtain⟨C,c1,c2,c3⟩:=HM.out.len
     have HC1:=zh c1
     have HC2:=zh c2
     clear c1 c2
     have hcl:C.length≤4000000000000000:=by
      have:=HC1.out
      have:=HL.out
      have:=Zh5 xs k
      have:=HRN.out
      omega
     have hn0:=N0.out
     have hn1:=NB.out
     go_wp2
     go_returns
     refine⟨C,_,by go_num,EW.out,fun x hx q hq y hy=>HC2.out y (HI.out x ?_ q hq y hy),by omega,by omega⟩
     rw[List.take_of_length_le (by rw[HX.out.2.1];exact Nat.le_refl _)]
     exact hx
def Zdk (r:ZaQ)(xs:List Zb3):Prop:=∃C:List ByteArray,InR xs C∧(C.length≤1∨C.length^(Zad r).length≤262144)
theorem ZqE (z:Int)(h1:0≤z)(h2:z≤262144):wrap64 z=z:=by unfold wrap64;omega
theorem ZrF {a b k:Nat}(h:a≤b):a^k≤b^k:=Nat.pow_le_pow_left h k
theorem Zus (r:ZaQ)(ah:Option Addr)(nh ch:Nat)(ab:Option Addr)(nb cb gr cg:Nat)(xs:List Zb3)(a:Option Addr)(n c:Nat)(w:World)(g0:w.cell? ⟨gr,0,none⟩=some (.string r.head.pred))(g1:w.cell? ⟨gr,1,none⟩=some (.slice ah nh ch))(g2:w.cell? ⟨gr,2,none⟩=some (.slice ab nb cb))(hr:ZaR w r ah nh ch ab nb cb)(hnb:nb≤6)(h:Zc2 w a n xs)(hrn:ZaZ xs≤400)(hv:(Zad r).length≤1000000):
  Calls Tryz.prog 18 #[.agg #[.slice (some ⟨gr,0,none⟩) 1 cg],.slice a n c] w fun e w'=>∃b,e=.returned (.bool b)∧Ext w w'∧(b=true→Zdk r xs):=by
 obtain⟨p0,hp0⟩:∃p0,w.heap.size=p0:=⟨_,rfl⟩
 obtain⟨W,hW⟩:∃W,W=w.alloc (.cells #[.slice (some ⟨gr,0,none⟩) 1 cg] 33):=⟨_,rfl⟩
 have EW:Hid (Ext w W):=by show Ext _ _;rw[hW];exact Zab zbr _
 have x0:W.cell? ⟨p0,0,none⟩=some (.slice (some ⟨gr,0,none⟩) 1 cg):=by rw[hW,←hp0];go_simp
 have X0:=zh x0
 have CN:=zh (ZkQ r ah nh ch ab nb cb gr cg xs a n c W (Zac EW.out g0) (Zac EW.out g1) (Zac EW.out g2) (hr.keep EW.out) hnb (h.keep EW.out) hrn)
 have NM:Hid (∀W',Ext w W'→Calls Tryz.prog 46 #[.agg #[.string r.head.pred,.slice ah nh ch,.slice ab nb cb]] W' fun e w'=>∃v,e=.returned v∧ZdM W' w' (Zad r) v):=fun W' e=>Zip r ah nh ch ab nb cb W' (hr.keep e) hv
 have G:Hid (∀W,Ext w W→W.cell? ⟨gr,0,none⟩=some (.string r.head.pred)∧W.cell? ⟨gr,1,none⟩=some (.slice ah nh ch)∧W.cell? ⟨gr,2,none⟩=some (.slice ab nb cb)):=fun W e=>⟨Zac e g0,Zac e g1,Zac e g2⟩
 have HV:=zh hv
 have HW:=zh hW
 have HP0:=zh hp0
 clear hr h hrn g0 g1 g2 x0 hv hW hp0
 go_enter Tryz.func18,Tryz.ntmps18
 go_upto_region 1 with (fail)
 rw[←HW.out,HP0.out]
 clear HW HP0
 have x0:=X0.out
 go_wp2_with (go_at_call 45;(with_reducible refine CN.out.mono ?_);rintro e w1 ⟨C,N,rfl,e1,hC,hCN,hN⟩)
 have E1:Hid (Ext w w1):=Zaa EW.out e1
 have X1:=zh (Zac e1 X0.out)
 have HC:=zh hC
 have HCN:=zh hCN
 have HN:=zh hN
 clear e1 hC hCN hN x0
 go_loopw [6] (fun i wj=>∃k:Nat,k≤1∧i=.int .i64 (k:Int)∧Ext w1 wj∧(k=1→Zdk r xs)) (fun i _=>1-(intOf i).toNat)
 case atStart=>exact⟨0,by omega,rfl,Below.refl _ _,fun e=>by omega⟩
 case round=>
  obtain⟨k,hk,rfl,he,hf⟩:=hrel
  have EE:=zh (Zaa E1.out he)
  have EE1:=zh he
  have x1:=Zac he X1.out
  by_cases hlt:k<1
  ·obtain rfl:k=0:=by omega
   obtain⟨y0,y1,y2⟩:=G.out _ EE.out
   clear he hf
   go_wp2_with (go_at_call 46;(with_reducible refine(NM.out _ EE.out).mono ?_);rintro e w2 ⟨v,rfl,o2,e2⟩;obtain⟨av,cv,rfl,_⟩:=Zag o2)
   obtain⟨m,hm⟩:∃m,(Zad r).length=m:=⟨_,rfl⟩
   have HM:=zh hm
   have hm1:m≤1000000:=by have:=HV.out;omega
   have EW2:=zh (Zaa EE.out e2)
   have EW1:=zh (Zaa EE1.out e2)
   rw[hm]
   clear hm o2 e2 y0 y1 y2 x1
   go_loopw [8,9] (fun u i wj=>∃(k T:Nat),k≤m∧u=.int .i64 (T:Int)∧i=.int .i64 (k:Int)∧Ext w2 wj∧T≤262144∧(1<N→T=N.toNat^k)) (fun _ i _=>m-(intOf i).toNat)
   case atStart=>exact⟨0,1,by omega,rfl,rfl,Below.refl _ _,by omega,fun _=>by simp⟩
   case round=>
    obtain⟨k,T,hk,rfl,rfl,he,hT,hP⟩:=hrel
    have HE:=zh he
    have HP:=zh hP
    have HT:=zh hT
    clear he hP
    by_cases hlt:k<m
    ·have hki:(k:Int)<(m:Int):=by omega
     by_cases h1:1<N
     ·go_wp2
      all_goals first
       |(go_returns;exact⟨false,rfl,Zaa EW2.out HE.out,fun h=>by cases h⟩)
       |(go_returns;exact .inl ⟨rfl,Zaa EW2.out HE.out⟩)
       |skip
      rename_i h2 h3 h4
      obtain⟨q,rfl⟩:∃q:Nat,N=q:=⟨N.toNat,by omega⟩
      have h5:(T:Int)*(q:Int)≤262144:=(Int.le_ediv_iff_mul_le (by omega)).1 h4.2
      have h7:((T*q:Nat):Int)=(T:Int)*(q:Int):=Int.natCast_mul T q
      have h6:T*q≤262144:=by omega
      refine⟨⟨k+1,T*q,by omega,?_,by go_num,HE.out,h6,fun h=>?_⟩,?_⟩
      ·rw[ZqE _ (by omega) h5,h7]
      ·have:=HP.out h
       rw[this,Int.toNat_natCast,Nat.pow_succ]
      ·simp[intOf];omega
     ·have hC1:C.length≤1:=by have:=HCN.out;omega
      have HF:Hid (Zdk r xs):=⟨C,HC.out,.inl hC1⟩
      clear hC1
      go_wp2
      go_roundw
      case rel=>exact⟨1,by omega,by rfl,Zaa EW1.out HE.out,fun _=>HF.out⟩
      case measure=>simp[intOf]
    ·obtain rfl:k=m:=by omega
     have hge:¬(k:Int)<(k:Int):=by omega
     have HF:Hid (Zdk r xs):=by
      refine⟨C,HC.out,?_⟩
      by_cases h1:1<N
      ·right
       have h2:=HP.out h1
       rw[HM.out]
       have h3:C.length≤N.toNat:=by have:=HCN.out;omega
       exact Nat.le_trans (ZrF h3) (by rw[←h2];exact HT.out)
      ·left
       have:=HCN.out
       omega
     go_wp2
     go_roundw
     case rel=>exact⟨1,by omega,by rfl,Zaa EW1.out HE.out,fun _=>HF.out⟩
     case measure=>simp[intOf]
  ·obtain rfl:k=1:=by omega
   have HF:=zh (hf rfl)
   clear he hf
   go_wp2
   go_returns
   exact⟨true,rfl,EE.out,fun _=>HF.out⟩
open K (ZaG Zda ZaQ)
theorem ZqF {rs:List (List ByteArray)}{t q:List ByteArray}(h:q∈ZaO rs t):q∈rs∨q=t:=by
 unfold ZaO at h
 split at h
 ·exact .inl h
 ·rcases List.mem_append.1 h with h|h
  ·exact .inl (List.mem_of_mem_take h)
  ·rcases List.mem_cons.1 h with h|h
   ·exact .inr h
   ·exact .inl (List.mem_of_mem_drop h)
theorem ZjQ {ar:Nat}:∀(ts rs:List (List ByteArray)) {q:List ByteArray},q∈(Zlv ar rs ts).2→q∈rs∨q∈ts
 |[],rs,q,h=>.inl h
 |t::ts,rs,q,h=>by
  unfold Zlv at h
  split at h
  ·rcases ZjQ ts _ h with h|h
   ·rcases ZqF h with h|h
    ·exact .inl h
    ·exact .inr (by rw[h];simp)
   ·exact .inr (List.mem_cons_of_mem _ h)
  ·exact .inl h
theorem Zo0 {S:Zjq}{x:Zb3}{k:ByteArray}{q:List ByteArray}(h:q∈Zcj (Zsa S x).2 k):q∈Zcj S k∨q∈x.rows:=by
 unfold Zsa at h
 split at h
 ·simp only at h
  unfold Zcj ZbK at h
  by_cases e:k=x.name
  ·rw[if_pos e] at h
   rcases ZjQ _ _ h with h|h
   ·exact .inl (by rw[e];exact h)
   ·exact .inr h
  ·rw[if_neg e] at h
   exact .inl h
 ·exact .inl h
theorem Zh6:∀(xs:List Zb3) (S:Zjq) {k:ByteArray} {q:List ByteArray},q∈Zcj (Zcw S xs).2 k→q∈Zcj S k∨∃x∈xs,q∈x.rows
 |[],S,k,q,h=>.inl h
 |x::xs,S,k,q,h=>by
  unfold Zcw at h
  split at h
  ·rcases Zh6 xs _ h with h|⟨y,hy,h⟩
   ·rcases Zo0 h with h|h
    ·exact .inl h
    ·exact .inr ⟨x,by simp,h⟩
   ·exact .inr ⟨y,List.mem_cons_of_mem _ hy,h⟩
  ·simp[Zcj] at h
theorem Zhj:∀(xs:List Zb3) (S:Zjq),(∀k,S k≠none→ZbA k=true)→∀k,(Zcw S xs).2 k≠none→ZbA k=true
 |[],S,hS,k,h=>hS k h
 |x::xs,S,hS,k,h=>by
  unfold Zcw at h
  split at h
  ·refine Zhj xs _ (fun k' hk'=>?_) k h
   unfold Zsa at hk'
   split at hk'
   ·rename_i hd
    simp only at hk'
    unfold ZbK at hk'
    by_cases e:k'=x.name
    ·rw[e];exact(ZfT hd).1
    ·rw[if_neg e] at hk'
     exact hS k' hk'
   ·exact hS k' hk'
  ·exact absurd rfl h
theorem Zhk {f:ZaT}{l:List Za7}(h:Za2 f=ZaV l)(k:ByteArray):Zan f k=ZaW l k:=by
 have:=congrFun h k
 unfold Za2 ZaV at this
 unfold Zan ZaW
 cases h1:f k <;> cases h2:Zbe l k
 ·rfl
 ·rw[h1,h2] at this;cases this
 ·rw[h1,h2] at this;cases this
 ·rw[h1,h2] at this
  simp only[Option.map_some,Option.some.injEq] at this
  rename_i x y
  show x.2.2=y.rs
  rw[this]
theorem ZmY (l:List Za7)(k:ByteArray):ZaW l k=Zcj (ZaV l) k:=by
 unfold ZaW Zcj ZaV
 cases Zbe l k <;> rfl
theorem ZjR {l:List Za7}(k:ByteArray):Zbe l k≠none↔k∈l.map (·.name):=by
 unfold Zbe
 rw[Ne,List.find?_eq_none]
 simp only[decide_eq_true_eq,List.mem_map]
 constructor
 ·intro h
  refine Classical.byContradiction fun hc=>h fun x hx e=>hc ⟨x,hx,e⟩
 ·rintro⟨x,hx,e⟩ h
  exact h x hx e
theorem Zhl {f:ZaT}{l:List Za7}(h:Za2 f=ZaV l)(k:ByteArray):f k≠none↔k∈l.map (·.name):=by
 rw[←ZjR]
 have:=congrFun h k
 unfold Za2 ZaV at this
 cases h1:f k <;> cases h2:Zbe l k <;> rw[h1,h2] at this <;> simp at this ⊢
theorem ZjS {l:List Za7}(hup:l.Pairwise fun x y=>ltB x.name y.name=true){x:Za7}(hx:x∈l):Zbe l x.name=some x:=by
 induction l with
 |nil=>cases hx
 |cons y l ih=>
  obtain⟨h1,h2⟩:=List.pairwise_cons.1 hup
  unfold Zbe at ih ⊢
  rw[List.find?_cons]
  rcases List.mem_cons.1 hx with rfl|hx
  ·simp
  ·have:decide (y.name=x.name)=false:=by
    rw[decide_eq_false_iff_not]
    intro e
    have:=h1 x hx
    rw[e] at this
    exact Zbb _ this
   rw[this]
   exact ih h2 hx
theorem ZsZ {f:ZaT}{l:List Za7}(h:Za2 f=ZaV l)(hup:l.Pairwise fun x y=>ltB x.name y.name=true):(l.map (·.name)).map (Zne f)=ZeA l:=by
 unfold ZeA
 rw[List.map_map]
 apply List.map_congr_left
 intro x hx
 have h1:=congrFun h x.name
 unfold Za2 ZaV at h1
 rw[ZjS hup hx] at h1
 show Zne f x.name=_
 unfold Zne
 cases h2:f x.name with
 |none=>rw[h2] at h1;cases h1
 |some y=>
  rw[h2] at h1
  simp only[Option.map_some,Option.some.injEq] at h1
  simp only
  rw[h1]
theorem Zut {f:ZaT}{l:List Za7}(h:Za2 f=ZaV l)(hup:l.Pairwise fun x y=>ltB x.name y.name=true):((l.map (·.name)).map fun k=>(Zan f k).length).sum=Ze0 l:=by
 unfold Ze0
 rw[List.map_map]
 congr 1
 apply List.map_congr_left
 intro x hx
 show (Zan f x.name).length=_
 rw[Zhk h]
 unfold ZaW
 rw[ZjS hup hx]
theorem Zl3 {r:ZaQ}(h:Zap r=0)(hag:r.head.terms.any ZfY=false):r.head.terms.any Zlt=false:=by
 rw[List.any_eq_false]
 intro t ht
 unfold Zlt
 rcases Zhf h hag t ht with q|⟨q,_⟩ <;> simp <;> omega
theorem Zo1 {r:ZaQ}(h:Zap r=0)(ha:r.head.terms.any Zlt=false):(∀x:List ByteArray,(∀y∈x,y.size≤4096)→ZaP (Zbj r x)=true)∨∀x:List ByteArray,ZaP (Zbj r x)=false:=by
 by_cases hc:∀t∈r.head.terms,t.kind=3→t.text.size≤4096
 ·left
  intro x hx
  rw[Zev h ha]
  refine(ZcX _).2 fun y hy=>?_
  obtain⟨t,ht,rfl⟩:=List.mem_map.1 hy
  unfold Zhb
  split
  ·rename_i h3
   exact hc t ht h3
  ·exact ZlN ((ZcX x).2 hx) _
 ·right
  intro x
  rw[Zev h ha]
  refine Bool.eq_false_iff.2 fun hm=>hc fun t ht h3=>?_
  have:=(ZcX _).1 hm (Zhb r x t) (List.mem_map.2 ⟨t,ht,rfl⟩)
  unfold Zhb at this
  rwa [if_pos h3] at this
theorem ZqG {r:ZaQ}(h:Zap r=0)(ha:r.head.terms.any Zlt=false)(x:List ByteArray):(Zbj r x).length=r.head.terms.length:=by
 rw[Zev h ha,List.length_map]
structure ZiU (xs:List Zb3)(f:ZaT)(l:List Za7):Prop where
 f:Za2 f=(Zcw (fun _=>none) xs).2
 d:ZaV l=(Zcw (fun _=>none) xs).2
theorem ZiU.eq {xs:List Zb3}{f:ZaT}{l:List Za7}(h:ZiU xs f l):Za2 f=ZaV l:=h.f.trans h.d.symm
theorem ZiU.rows {xs:List Zb3}{f:ZaT}{l:List Za7}(h:ZiU xs f l){k:ByteArray}{q:List ByteArray}(hq:q∈ZaW l k):∃x∈xs,q∈x.rows:=by
 rw[ZmY,h.d] at hq
 rcases Zh6 xs _ hq with h|h
 ·simp[Zcj] at h
 ·exact h
theorem ZiU.named {xs:List Zb3}{f:ZaT}{l:List Za7}(h:ZiU xs f l):∀k∈l.map (·.name),ZbA k=true:=fun k hk=>by
 have:=(Zhl h.eq k).2 hk
 refine Zhj xs _ (fun k' hk'=>absurd rfl hk') k ?_
 rw[←h.f]
 unfold Za2
 cases hf:f k with
 |none=>exact absurd hf this
 |some x=>simp
theorem ZiU.few {xs:List Zb3}{f:ZaT}{l:List Za7}(h:ZiU xs f l){r:ZaQ}(hf:Zdk r xs):(ZbS r l).length≤262144:=by
 obtain⟨C,h1,h2⟩:=hf
 have h3:=Zqr (r:=r) (dl:=l) C (fun k q hq y hy=>by
  obtain⟨x,hx,hqx⟩:=h.rows hq
  exact h1 x hx q hqx y hy)
 rcases h2 with h2|h2
 ·have:C.length^(Zad r).length≤1^(Zad r).length:=ZrF h2
  rw[Nat.one_pow] at this
  omega
 ·omega
theorem Zew {r:ZaQ}{l:List Za7}{x:List ByteArray}(h:x∈ZbS r l):x.length=(Zad r).length:=((ZgD r l x).1 h).1
theorem ZmZ {r:ZaQ}{fa fB:ZaT}{la ll:List Za7}{fl:ZaT}{nh:Nat}(hea:Za2 fa=ZaV la)(hel:Za2 fl=ZaV ll)(hck:Zap r=0)(hag:r.head.terms.any ZfY=false)(hnh:r.head.terms.length=nh)(hB:∀k q,q∈Zan fB k↔q∈Zan fl k∧q∈Zan fa k)(hgood:∀k,∀q∈Zan fa k,ZaP q=true):
  (∀rows,Zbs nh rows→(∀y,y∈rows↔Zeh r fa fB y)→(Zcf nh [] (ZbL r la ll (ZbS r la))).1=0∧(Zcf nh [] (ZbL r la ll (ZbS r la))).2=rows)∧
  (∀er rows t,er≠0→Zbs nh rows→(∀y∈rows,Zeh r fa fB y)→Zeh r fa fB t→Za5 nh rows t=er→(Zcf nh [] (ZbL r la ll (ZbS r la))).1=er):=by
 have hat:=Zl3 hck hag
 have hx:∀x∈ZbS r la,∀y∈x,y.size≤4096:=fun x hx y hy=>by
  obtain⟨l,_,_,q,hq,hyq⟩:=ZjJ hx y hy
  rw[←Zhk hea] at hq
  exact(ZcX q).1 (hgood _ q hq) y hyq
 have hF:=ZoL (r:=r) (all:=la) (last:=ll) (fa:=fa) (fl:=fB) (Zhk hea) (fun k q=>by rw[hB,Zhk hea,Zhk hel]) hck
 refine ZoN (H:=Zeh r fa fB) (fun y=>?_) (fun t ht=>?_) ?_
 ·unfold ZbL Zeh
  rw[List.mem_map]
  constructor
  ·rintro⟨x,hx,rfl⟩
   have hm:=(hF x).1 hx
   exact⟨x,hm,(Zft hck hag (Zew (List.mem_filter.1 hx).1)).symm⟩
  ·rintro⟨x,hm,rfl⟩
   have hx:=(hF x).2 hm
   exact⟨x,hx,Zft hck hag (Zew (List.mem_filter.1 hx).1)⟩
 ·unfold ZbL at ht
  obtain⟨x,hx,rfl⟩:=List.mem_map.1 ht
  rw[Zft hck hag (Zew (List.mem_filter.1 hx).1),ZqG hck hat,hnh]
 ·rcases Zo1 hck hat with hu|hu
  ·left
   intro t ht
   unfold ZbL at ht
   obtain⟨x,hx2,rfl⟩:=List.mem_map.1 ht
   rw[Zft hck hag (Zew (List.mem_filter.1 hx2).1)]
   exact hu x (hx x (List.mem_filter.1 hx2).1)
  ·right
   intro t ht
   unfold ZbL at ht
   obtain⟨x,hx2,rfl⟩:=List.mem_map.1 ht
   rw[Zft hck hag (Zew (List.mem_filter.1 hx2).1)]
   exact hu x
def Zfy (l:K.Lit):Nat:=if l.kind=1 then l.atom.terms.length else 0
theorem Zs0 (k:Int)(ts:List ZaG):∀out:List ByteArray,(ts.foldl (Zak k) out).length≤out.length+(if k=1 then ts.length else 0):=by
 induction ts with
 |nil=>intro out;simp
 |cons t ts ih=>
  intro out
  rw[List.foldl_cons,List.length_cons]
  have:=ih (Zak k out t)
  have:(Zak k out t).length≤out.length+(if k=1 then 1 else 0):=by
   unfold Zak
   by_cases h:k=1
   ·rw[if_pos h]
    split <;> simp
   ·rw[if_neg h,if_neg (fun q=>h q.1)]
    omega
  by_cases h:k=1
  ·rw[if_pos h] at *;omega
  ·rw[if_neg h] at *;omega
theorem ZqH (ls:List K.Lit):∀out:List ByteArray,(ls.foldl Zb4 out).length≤out.length+(ls.map Zfy).sum:=by
 induction ls with
 |nil=>intro out;simp
 |cons l ls ih=>
  intro out
  rw[List.foldl_cons,List.map_cons,List.sum_cons]
  have h1:=ih (Zb4 out l)
  have h2:(Zb4 out l).length≤out.length+Zfy l:=Zs0 l.kind l.atom.terms out
  omega
theorem Zo2 (r:ZaQ):(Zad r).length≤(r.body.map Zfy).sum:=by
 have:=ZqH r.body []
 simpa [Zad] using this
theorem Zo3 {α:Type}(f:α→Nat)(m:Nat):∀l:List α,(∀x∈l,f x≤m)→(l.map f).sum≤l.length*m
 |[],_=>by simp
 |x::l,h=>by
  rw[List.map_cons,List.sum_cons,List.length_cons,Nat.succ_mul]
  have:=Zo3 f m l (fun y hy=>h y (List.mem_cons_of_mem _ hy))
  have:=h x (by simp)
  omega
theorem Zm0 {r:ZaQ}(h:Zap r=0)(hb:r.body.length≤6):(Zad r).length≤10000:=by
 have h1:=Zo2 r
 have h2:=Zo3 Zfy 64 r.body (fun l hl=>by
  unfold Zfy
  split
  ·rename_i hk
   have:=Zdx h hl
   unfold Zbf at this
   rw[if_pos (.inl hk),Bool.and_eq_true,decide_eq_true_eq] at this
   exact this.1
  ·omega)
 omega
