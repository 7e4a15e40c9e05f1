/- The document's touched (layer 17). -/
import Derived.Test.YtjfbjjmiobgjfaaGreatG26
set_option maxRecDepth 100000
set_option maxHeartbeats 8000000
namespace Go.Proofs.YtjfbjjmiobgjfaaGreat
open ChangeShapes WideShapes ChangeAt RowKit
open K (ZaG Zda ZaQ Zaq Zbl ZaR Zbw Zcm)
theorem Zn7 (r:ZaQ)(ah:Option Addr)(nh ch:Nat)(ab:Option Addr)(nb cb:Nat)(x:List ByteArray)(ax:Option Addr)(n cx:Nat)(lo1 b1 lo2 b2:Nat)(all last:List Za7)(w:World)(hr:ZaR w r ah nh ch ab nb cb)(hv:(Zad r).length≤1000000)(hck:Zap r=0)(hx:Zai w ax n x)(hxn:ax=none→n=0∧cx=0)(hn:(Zad r).length=n)(hn2:n≤100000)(h1:ZaU w lo1 b1 all)(h2:ZaU w lo2 b2 last)(hl1:all.length≤1000000)(hl2:last.length≤1000000):
  Calls Tryz.prog 36 #[ZeR r ah nh ch ab nb cb,.slice ax n cx,.pointer (some ⟨b1,0,none⟩),.pointer (some ⟨b2,0,none⟩)] w fun e w'=>e=.returned (.bool (Zfk r x all last))∧Ext w w':=by
 obtain⟨W1,hW1⟩:∃W1,W1=w.alloc (.cells #[.string r.head.pred,.slice ah nh ch,.slice ab nb cb] 27):=⟨_,rfl⟩
 have E1:Hid (Ext w W1):=by show Ext _ _;rw[hW1];exact Zab zbr _
 obtain⟨p,hp⟩:∃p,w.heap.size=p:=⟨_,rfl⟩
 have HA:Hid (W1.heap[p]? =some (.cells #[.string r.head.pred,.slice ah nh ch,.slice ab nb cb] 27 (0,0))):=by
  show _=_;rw[hW1,←hp];exact heap_alloc_new w _
 have RC:Hid (∀W,Ext W1 W→W.cell? ⟨p,0,none⟩=some (.string r.head.pred)∧W.cell? ⟨p,1,none⟩=some (.slice ah nh ch)∧W.cell? ⟨p,2,none⟩=some (.slice ab nb cb)):=fun W hW=>by
  have h:=(hW.block p (zag HA.out).1).trans HA.out
  exact⟨by simp[World.cell?,h],by simp[World.cell?,h],by simp[World.cell?,h]⟩
 have VA:Hid (Calls Tryz.prog 79 #[ZeR r ah nh ch ab nb cb] W1 fun e w'=>∃v,e=.returned v∧ZdM W1 w' (Zad r) v):=ZtN r ah nh ch ab nb cb W1 (hr.keep E1.out) hv hck
 have HR:=zh hr
 have HLB:=zh hr.body.2.1
 have HX:=zh hx
 have HXN:=zh hxn
 have HN:=zh hn
 have H1:=zh h1
 have H2:=zh h2
 have hnb:=hr.body.1
 have L64:Hid (∀l∈r.body,l.kind=1→l.atom.terms.length≤64):=fun l hl hk=>Zri (ZfX hck hl) (.inl hk)
 obtain⟨T,hT⟩:∃T,T=Zfk r x all last:=⟨_,rfl⟩
 rw[←hT]
 have FIN:=zh hT
 obtain⟨c0,c1,c2⟩:=RC.out _ zbr
 clear hr hck hx hxn hn h1 h2 hT
 go_enter Tryz.func36,Tryz.ntmps36
 go_upto_region 1 with (fail)
 rw[←hW1]
 clear hW1 hp
 go_upto_region 2 with (go_at_call 79;(with_reducible refine VA.out.mono ?_);rintro e w2 ⟨v2,rfl,own2,e2⟩;obtain⟨av,cv,rfl,_⟩:=Zag own2;rw[HN.out] at own2 ⊢)
 obtain⟨W4,hW4⟩:∃W4,w2.alloc (.cells #[.slice av n cv,.slice ax n cx] 138)=W4:=⟨_,rfl⟩
 have E24:Hid (Ext w2 W4):=by show Ext _ _;rw[←hW4];exact Zab zbr _
 have E14:Hid (Ext W1 W4):=Zaa e2 E24.out
 have EW4:Hid (Ext w W4):=Zaa E1.out E14.out
 obtain⟨p9,hp9⟩:∃q,w2.heap.size=q:=⟨_,rfl⟩
 have P9:Hid (Za1 W4 p9 138 (.slice av n cv) (.slice ax n cx)):=by show _=_;rw[←hW4,←hp9];exact heap_alloc_new w2 _
 have SN:Hid (Zai W4 av n (Zad r)):=by
  have h1:=Zar own2 E24.out
  exact ZaL h1 (Za4 h1).1
 have SNN:Hid (av=none→n=0∧cv=0):=(ZaF own2).2
 have SX:Hid (Zai W4 ax n x):=HX.out.keep EW4.out
 rw[hW4,hp9]
 clear hW4 hp9 own2 e2 c0 c1 c2
 go_wp2
 go_loopw [10] (fun u wj=>∃k:Nat,k≤nb∧u=.int .i64 k∧(r.body.take k).any (fun l=>decide (l.kind=1)&&(ZaW last l.atom.pred).any (Zdr (Zad r) x all l))=false∧Ext W4 wj) (fun u _=>nb-(intOf u).toNat)
 case atStart=>exact⟨0,by omega,rfl,rfl,Below.refl _ _⟩
 case round=>
  obtain⟨i,hi,rfl,hq,hE⟩:=hrel
  have HQ:=zh hq
  have HE:=zh hE
  have EW:Hid (Ext w wr):=Zaa EW4.out hE
  obtain⟨_,_,c2⟩:=RC.out _ (Zaa E14.out hE)
  clear hq hE
  by_cases hlt:i<nb
  ·have hii:(i:Int)<(nb:Int):=by omega
   obtain⟨l,b,o,hx,rfl,al,nl,cl,g0,g1,g2,g3,g4,g5,g6,g7,g8,g9⟩:=HR.out.body.2.at hlt
   have HXL:=zh hx
   have HTK:Hid (r.body.take (i+1)=r.body.take i++[l]):=ZaA hx
   have GK:Hid (∀W,Ext w W→W.cell? ⟨b,o+i*8,none⟩=some (.int .i64 l.kind)∧W.cell? ⟨b,o+i*8+1,none⟩=some (.string l.atom.pred)∧W.cell? ⟨b,o+i*8+2,none⟩=some (.slice al nl cl)):=fun W hw=>⟨Zac hw g0,Zac hw g1,Zac hw g2⟩
   have TM:Hid (Zaq w al nl l.atom.terms):=g8
   have HNL:Hid (l.atom.terms.length=nl):=g8.2.1
   obtain⟨y0,y1,y2⟩:=GK.out _ EW.out
   clear hx g0 g1 g2 g3 g4 g5 g6 g7 g8 g9
   by_cases hk:l.kind=1
   ·have hnl:nl≤64:=by have:=L64.out l (zmg HXL.out) hk;have:=HNL.out;omega
    have q1:(l.kind != 1)=false:=by simpa using hk
    have HK:=zh hk
    have TN:Hid ((ZaW last l.atom.pred).any (Zdr (Zad r) x all l)=true→T=true):=fun h=>by
     rw[FIN.out]
     exact List.any_eq_true.2 ⟨l,zmg HXL.out,by rw[decide_eq_true HK.out,h];rfl⟩
    have NX:Hid ((ZaW last l.atom.pred).any (Zdr (Zad r) x all l)=false→(r.body.take (i+1)).any (fun l=>decide (l.kind=1)&&(ZaW last l.atom.pred).any (Zdr (Zad r) x all l))=false):=fun h=>by
     rw[HTK.out,List.any_append,HQ.out]
     simp[h]
    have RO:Hid (Calls Tryz.prog 80 #[.pointer (some ⟨b2,0,none⟩),.string l.atom.pred] wr fun e w'=>e=.returned (Zrd (Zbe last l.atom.pred))∧Ext wr w'):=ZfO lo2 b2 last l.atom.pred wr (H2.out.ext EW.out) hl2
    have AL:Hid (∀W,Ext wr W→Calls Tryz.prog 14 #[Zrd (Zbe last l.atom.pred)] W fun e w'=>∃v,e=.returned v∧Zci W w' (ZaW last l.atom.pred) v):=fun W hW=>ZlA H2.out l.atom.pred W (Zaa EW.out hW)
    have FW:=zh (ZeN H2.out l.atom.pred)
    have HSB:Hid (∀(q:List ByteArray) ar cr W,Zai W ar q.length q→Ext w W→Calls Tryz.prog 81 #[.pointer (some ⟨b1,0,none⟩),.string l.atom.pred,.slice ar q.length cr] W fun e w'=>e=.returned (.bool (Zpx all l.atom.pred q))∧Ext W w'):=fun q ar cr W hs hW=>ZtC lo1 b1 all l.atom.pred q ar q.length cr W (H1.out.ext hW) hl1 hs
    have FT:Hid (∀(q:List ByteArray) ar cr W,q.length=nl→Zai W ar q.length q→Ext W4 W→Calls Tryz.prog 82 #[ZeB av n cv ax cx,ZdZ l.atom al nl cl,.slice ar nl cr] W (ZdO av n cv ax cx (Zbh l.atom.terms q (Zad r) x) W)):=fun q ar cr W hq hs hW=>by
     rw[hq] at hs
     exact Zn2 (Zad r) x av n cv ax cx l.atom al nl cl q ar cr W (SN.out.keep hW) (SX.out.keep hW) SNN.out HXN.out hn2 (TM.out.keep (Zaa EW4.out hW)) (by omega) hs
    obtain⟨rs,hrs⟩:∃rs,ZaW last l.atom.pred=rs:=⟨_,rfl⟩
    rw[hrs] at TN NX AL FW
    generalize Zrd (Zbe last l.atom.pred)=dp at RO AL
    clear hrs hk
    go_wp2_with (first
     |(go_at_call 80;(with_reducible refine RO.out.mono ?_);rintro e w5 ⟨rfl,e5⟩)
     |(go_at_call 14;(with_reducible refine(AL.out _ e5).mono ?_);rintro e w6 ⟨v6,rfl,us6,o6,r6,e6⟩;obtain⟨a6,c6,rfl,_⟩:=Zag o6))
    have E46:Hid (Ext W4 w6):=Zaa HE.out (Zaa e5 e6)
    have RL:Hid (ZfW w6 a6 c6 rs):=⟨Nat.le_trans FW.out.1 (by decide),_,us6,o6,r6⟩
    obtain⟨N,hN⟩:∃N,rs.length=N:=⟨_,rfl⟩
    have HNN:=zh hN
    have hN6:N≤65536:=by have:=FW.out.1;omega
    rw[hN]
    clear hN e5 e6 o6 r6 c2 y0 y1 y2
    go_loopw [12] (fun u wj=>∃k:Nat,k≤N∧u=.int .i64 k∧(rs.take k).any (Zdr (Zad r) x all l)=false∧Ext w6 wj) (fun u _=>N-(intOf u).toNat)
    case atStart=>exact⟨0,by omega,rfl,rfl,Below.refl _ _⟩
    case round=>
     obtain⟨k,hk,rfl,hq,hE⟩:=hrel
     have HQ2:=zh hq
     have HE2:=zh hE
     clear hq hE
     by_cases hlk:k<N
     ·have hki:(k:Int)<(N:Int):=by omega
      obtain⟨q,hqx⟩:∃q,rs[k]? =some q:=⟨_,zge (by have:=HNN.out;omega)⟩
      obtain⟨g,ar,cr,rfl,hg,hs,_⟩:=RL.out.at hqx
      have HQX:=zh hqx
      have HTQ:Hid (rs.take (k+1)=rs.take k++[q]):=ZaA hqx
      have HG:=zh hg
      have HSQ:=zh hs
      clear hqx hg hs
      by_cases hm:q.length=nl
      ·have HM:=zh hm
       have QL:Hid (Zdr (Zad r) x all l q=(Zpx all l.atom.pred q&&(Zbh l.atom.terms q (Zad r) x).isSome)):=by
        show _=_
        unfold Zdr
        rw[HM.out,HNL.out]
        simp
       have HS:Hid (∀W,Ext w6 W→Calls Tryz.prog 81 #[.pointer (some ⟨b1,0,none⟩),.string l.atom.pred,.slice ar nl cr] W fun e w'=>e=.returned (.bool (Zpx all l.atom.pred q))∧Ext W w'):=fun W hW=>by
        have:=HSB.out q ar cr W (HSQ.out.keep hW) (Zaa EW4.out (Zaa E46.out hW))
        rw[HM.out] at this
        exact this
       have FR:Hid (∀W,Ext w6 W→Calls Tryz.prog 82 #[ZeB av n cv ax cx,ZdZ l.atom al nl cl,.slice ar nl cr] W (ZdO av n cv ax cx (Zbh l.atom.terms q (Zad r) x) W)):=fun W hW=>FT.out q ar cr W HM.out (HSQ.out.keep hW) (Zaa E46.out hW)
       have KK:Hid (∀W,Ext w6 W→W.cell? ⟨p,2,none⟩=some (.slice (some ⟨b,o,none⟩) nb cb)∧W.cell? ⟨b,o+i*8+1,none⟩=some (.string l.atom.pred)∧W.cell? ⟨b,o+i*8+2,none⟩=some (.slice al nl cl)∧W.cell? ⟨p9,0,none⟩=some (.slice av n cv)∧W.cell? ⟨p9,1,none⟩=some (.slice ax n cx)∧W.cell? ⟨g,k,none⟩=some (.slice ar nl cr)):=fun W hW=>by
        have h4:=Zaa E46.out hW
        obtain⟨_,z1,z2⟩:=GK.out _ (Zaa EW4.out h4)
        exact⟨(RC.out _ (Zaa E14.out h4)).2.2,z1,z2,(P9.out.ext h4).c0,(P9.out.ext h4).c1,by rw[←HM.out];exact Zac hW HG.out⟩
       have HEB:Hid (Ext w6 wr.drew):=Zaf HE2.out
       obtain⟨k1,k2,k3,k4,k5,k6⟩:=KK.out _ HE2.out
       obtain⟨j1,j2,j3,j4,j5,j6⟩:=KK.out _ HEB.out
       have hnn:((nl:Int) != (nl:Int))=false:=by simp
       clear hm
       obtain⟨h,hh⟩:∃h,Zpx all l.atom.pred q=h:=⟨_,rfl⟩
       rw[hh] at HS QL
       clear hh
       cases h with
       |false=>
        go_wp2
        go_region_held3 (fun w'=>w'.cell? ⟨p,2,none⟩=some (.slice (some ⟨b,o,none⟩) nb cb)∧w'.cell? ⟨b,o+i*8+1,none⟩=some (.string l.atom.pred)∧w'.cell? ⟨b,o+i*8+2,none⟩=some (.slice al nl cl)∧w'.cell? ⟨p9,0,none⟩=some (.slice av n cv)∧w'.cell? ⟨p9,1,none⟩=some (.slice ax n cx)∧w'.cell? ⟨g,k,none⟩=some (.slice ar nl cr))
         (with_reducible (first|go_keep|exact⟨k1,k2,k3,k4,k5,k6⟩|exact⟨j1,j2,j3,j4,j5,j6⟩|exact KK.out _ e4))
         (first
          |(go_at_call 81;(with_reducible refine(HS.out _ HEB.out).mono ?_);rintro e w3 ⟨rfl,e3⟩;have e4:=Zaa HEB.out e3)
          |fail)
        go_wp2
        go_roundw
        case rel=>exact⟨k+1,by omega,by go_num,by rw[HTQ.out,List.any_append,HQ2.out];simp[QL.out],e4⟩
        case measure=>simp[intOf];omega
       |true=>
        go_upto_region 10 with (fail)
        go_cut [78] (fun v78 wc=>v78=.bool false∧Ext w6 wc)
        case first=>
         go_region_held3 (fun w'=>w'.cell? ⟨p,2,none⟩=some (.slice (some ⟨b,o,none⟩) nb cb)∧w'.cell? ⟨b,o+i*8+1,none⟩=some (.string l.atom.pred)∧w'.cell? ⟨b,o+i*8+2,none⟩=some (.slice al nl cl)∧w'.cell? ⟨p9,0,none⟩=some (.slice av n cv)∧w'.cell? ⟨p9,1,none⟩=some (.slice ax n cx)∧w'.cell? ⟨g,k,none⟩=some (.slice ar nl cr))
          (with_reducible (first|go_keep|exact⟨k1,k2,k3,k4,k5,k6⟩|exact⟨j1,j2,j3,j4,j5,j6⟩|exact KK.out _ e4))
          (first
           |(go_at_call 81;(with_reducible refine(HS.out _ HEB.out).mono ?_);rintro e w3 ⟨rfl,e3⟩;have e4:=Zaa HEB.out e3)
           |fail)
         go_wp2
         go_meet
         exact⟨rfl,e4⟩
        case rest=>
         obtain⟨rfl,ec⟩:=hcut
         have EC:=zh ec
         have HED:Hid (Ext w6 (wc.alloc (.cells #[.slice none 0 0,.slice none 0 0] 138)).drew):=Zaf (Zab ec _)
         have HEB:Hid (Ext w6 wc.drew):=Zaf ec
         have HZ9:Hid (w6.heap.size≤wc.heap.size):=ec.size
         have Q9:Hid (Za1 (wc.alloc (.cells #[.slice none 0 0,.slice none 0 0] 138)).drew wc.heap.size 138 (.slice none 0 0) (.slice none 0 0)):=heap_alloc_new wc _
         clear k1 k2 k3 k4 k5 k6 j1 j2 j3 j4 j5 j6 ec
         obtain⟨k1,k2,k3,k4,k5,k6⟩:=KK.out _ EC.out
         obtain⟨j1,j2,j3,j4,j5,j6⟩:=KK.out _ HEB.out
         obtain⟨m1,m2,m3,m4,m5,m6⟩:=KK.out _ HED.out
         cases hf:Zbh l.atom.terms q (Zad r) x with
         |none=>
          rw[hf] at FR QL
          have FN:Hid (∀W,Ext w6 W→Calls Tryz.prog 82 #[ZeB av n cv ax cx,ZdZ l.atom al nl cl,.slice ar nl cr] W fun e w'=>e=.returned (.tuple #[ZeB av n cv ax cx,.bool false])∧Ext W w'):=fun W hW=>(FR.out W hW).mono fun e w' ⟨q1,q2⟩=>⟨q2,q1⟩
          clear hf FR
          go_wp2
          go_region_held3 (fun w'=>w'.cell? ⟨p,2,none⟩=some (.slice (some ⟨b,o,none⟩) nb cb)∧w'.cell? ⟨b,o+i*8+1,none⟩=some (.string l.atom.pred)∧w'.cell? ⟨b,o+i*8+2,none⟩=some (.slice al nl cl)∧w'.cell? ⟨p9,0,none⟩=some (.slice av n cv)∧w'.cell? ⟨p9,1,none⟩=some (.slice ax n cx)∧w'.cell? ⟨g,k,none⟩=some (.slice ar nl cr))
           (with_reducible (first|go_keep|exact⟨k1,k2,k3,k4,k5,k6⟩|exact⟨j1,j2,j3,j4,j5,j6⟩|exact⟨m1,m2,m3,m4,m5,m6⟩|exact KK.out _ e4|exact KK.out _ (Zal e4 HZ9.out _)|exact KK.out _ (Zal (Zal e4 HZ9.out _) HZ9.out _)|exact KK.out _ (Zab e4 _)|exact KK.out _ (Zal (Zab e4 _) e4.size _)|exact KK.out _ (Zal (Zal (Zab e4 _) e4.size _) e4.size _)))
           (first
            |(go_at_call 82;(with_reducible refine(FN.out _ HED.out).mono ?_);rintro e w3 ⟨rfl,e3⟩;have e4:=Zaa HED.out e3;have q9:=Q9.out.ext e3;have q90:=q9.c0;have q91:=q9.c1;have q92:=q9.f0;have q93:=q9.f1)
            |(go_at_call 82;(with_reducible refine(FN.out _ HEB.out).mono ?_);rintro e w3 ⟨rfl,e3⟩;have e4:=Zaa HEB.out e3)
            |fail)
          all_goals
           go_wp2
           go_roundw
           case rel=>exact⟨k+1,by omega,by go_num,by rw[HTQ.out,List.any_append,HQ2.out];simp[QL.out],by first|exact Zal (Zal e4 HZ9.out _) HZ9.out _|exact Zal (Zal (Zab e4 _) e4.size _) e4.size _|exact Zab e4 _⟩
           case measure=>simp[intOf];omega
         |some f=>
          rw[hf] at FR QL
          have HB:Hid (T=true):=TN.out (List.any_eq_true.2 ⟨q,zmg HQX.out,by rw[QL.out];rfl⟩)
          have FN:Hid (∀W,Ext w6 W→Calls Tryz.prog 82 #[ZeB av n cv ax cx,ZdZ l.atom al nl cl,.slice ar nl cr] W fun e w'=>∃aN cN aV cV,e=.returned (.tuple #[.agg #[.slice aN f.1.length cN,.slice aV f.1.length cV],.bool true])∧Ext W w'):=fun W hW=>(FR.out W hW).mono fun e w' ⟨q1,q2,aN,cN,aV,cV,q3,q4,q5⟩=>⟨aN,cN,aV,cV,q3,q1⟩
          clear hf FR
          go_wp2
          go_region_held3 (fun w'=>w'.cell? ⟨p,2,none⟩=some (.slice (some ⟨b,o,none⟩) nb cb)∧w'.cell? ⟨b,o+i*8+1,none⟩=some (.string l.atom.pred)∧w'.cell? ⟨b,o+i*8+2,none⟩=some (.slice al nl cl)∧w'.cell? ⟨p9,0,none⟩=some (.slice av n cv)∧w'.cell? ⟨p9,1,none⟩=some (.slice ax n cx)∧w'.cell? ⟨g,k,none⟩=some (.slice ar nl cr))
           (with_reducible (first|go_keep|exact⟨k1,k2,k3,k4,k5,k6⟩|exact⟨j1,j2,j3,j4,j5,j6⟩|exact⟨m1,m2,m3,m4,m5,m6⟩|exact KK.out _ e4|exact KK.out _ (Zal e4 HZ9.out _)|exact KK.out _ (Zal (Zal e4 HZ9.out _) HZ9.out _)|exact KK.out _ (Zab e4 _)|exact KK.out _ (Zal (Zab e4 _) e4.size _)|exact KK.out _ (Zal (Zal (Zab e4 _) e4.size _) e4.size _)))
           (first
            |(go_at_call 82;(with_reducible refine(FN.out _ HED.out).mono ?_);rintro e w3 ⟨aN,cN,aV,cV,rfl,e3⟩;have e4:=Zaa HED.out e3;have q9:=Q9.out.ext e3;have q90:=q9.c0;have q91:=q9.c1;have q92:=q9.f0;have q93:=q9.f1)
            |(go_at_call 82;(with_reducible refine(FN.out _ HEB.out).mono ?_);rintro e w3 ⟨aN,cN,aV,cV,rfl,e3⟩;have e4:=Zaa HEB.out e3)
            |fail)
          all_goals
           go_wp2
           go_returns
           exact⟨by rw[HB.out];rfl,Zaa EW4.out (Zaa E46.out (by first|exact Zal (Zal e4 HZ9.out _) HZ9.out _|exact Zal (Zal (Zab e4 _) e4.size _) e4.size _|exact Zab e4 _))⟩
      ·have QL:Hid (Zdr (Zad r) x all l q=false):=by
        show _=_
        unfold Zdr
        rw[HNL.out]
        simp[hm]
       obtain⟨m,hmm⟩:∃m,q.length=m:=⟨_,rfl⟩
       have HMM:=zh hmm
       have hnn:((m:Int) != (nl:Int))=true:=by simp;omega
       have KK:Hid (∀W,Ext w6 W→W.cell? ⟨p,2,none⟩=some (.slice (some ⟨b,o,none⟩) nb cb)∧W.cell? ⟨b,o+i*8+2,none⟩=some (.slice al nl cl)∧W.cell? ⟨g,k,none⟩=some (.slice ar m cr)):=fun W hW=>by
        have h4:=Zaa E46.out hW
        obtain⟨_,z1,z2⟩:=GK.out _ (Zaa EW4.out h4)
        exact⟨(RC.out _ (Zaa E14.out h4)).2.2,z2,by rw[←HMM.out];exact Zac hW HG.out⟩
       obtain⟨k1,k3,k6⟩:=KK.out _ HE2.out
       clear hm hmm
       go_wp2
       go_quiet (fail)
       go_wp2
       go_roundw
       case rel=>exact⟨k+1,by omega,by go_num,by rw[HTQ.out,List.any_append,HQ2.out];simp[QL.out],Zae HE2.out _⟩
       case measure=>simp[intOf];omega
     ·obtain rfl:k=N:=by omega
      have hge:¬(k:Int)<(k:Int):=by omega
      have HB:=HQ2.out
      rw[List.take_of_length_le (by have:=HNN.out;omega)] at HB
      have HB2:=zh HB
      clear HB
      go_wp2
      go_roundw
      case rel=>exact⟨i+1,by omega,by go_num,NX.out HB2.out,Zaa E46.out HE2.out⟩
      case measure=>simp[intOf];omega
   ·have q1:(l.kind != 1)=true:=by simpa using hk
    have NX:Hid ((r.body.take (i+1)).any (fun l=>decide (l.kind=1)&&(ZaW last l.atom.pred).any (Zdr (Zad r) x all l))=false):=by
     show _=_
     rw[HTK.out,List.any_append,HQ.out]
     simp[hk]
    clear hk
    go_wp2
    go_roundw
    case rel=>exact⟨i+1,by omega,by go_num,NX.out,HE.out⟩
    case measure=>simp[intOf];omega
  ·obtain rfl:i=nb:=by omega
   have hge:¬(i:Int)<(i:Int):=by omega
   have HT:Hid (T=false):=by
    have:=HQ.out
    rw[List.take_of_length_le (by have:=HLB.out;omega)] at this
    show _=_
    rw[FIN.out]
    exact this
   go_wp2
   go_returns
   exact⟨by rw[HT.out];rfl,EW.out⟩
def Zcf (ar:Nat):List (List ByteArray)→List (List ByteArray)→Int×List (List ByteArray)
 |rs,[]=>(0,rs)
 |rs,t::ts=>if Zjj ar rs t=0 then Zcf ar (Zjk ar rs t) ts else (Zjj ar rs t,rs)
def ZbL (r:ZaQ)(all last:List Za7)(l:List (List ByteArray)):List (List ByteArray):=(l.filter fun x=>Zfk r x all last).map (Zfi r)
theorem ZkD (r:ZaQ)(all last:List Za7)(x:List ByteArray)(l:List (List ByteArray)):ZbL r all last (x::l)=if Zfk r x all last=true then Zfi r x::ZbL r all last l else ZbL r all last l:=by
 unfold ZbL
 rw[List.filter_cons]
 split <;> rfl
theorem ZlE {ar:Nat}{rs:List (List ByteArray)}{t:List ByteArray}(h:rs.length≤65536):(Zjk ar rs t).length≤65536:=by
 unfold Zjk
 split
 ·rename_i hb
  unfold Ziq at hb
  simp only[Bool.and_eq_true,decide_eq_true_eq] at hb
  have:=Znx rs t
  rw[List.length_append,List.length_cons,List.length_take,List.length_drop]
  omega
 ·exact h
theorem Zp5 {ar:Nat}{rs:List (List ByteArray)}{t:List ByteArray}(h:Ziq ar rs t=true):Zjj ar rs t=0:=by
 unfold Ziq at h
 simp only[Bool.and_eq_true,decide_eq_true_eq,Bool.not_eq_true',decide_eq_false_iff_not] at h
 unfold Zjj
 rw[if_neg (by omega),if_neg (by rw[h.1.1.2];simp),if_neg h.1.2,if_neg (by omega)]
theorem ZtP {lo pb ar:Nat}{rs:List (List ByteArray)}{t:List ByteArray}{a:Option Addr}{n c:Nat}{w:World}(h:ZbH w lo pb ar rs)(hl:rs.length≤65536)(har:ar≤64)(ht:Zai w a n t)(hc:a=none→n=0∧c=0)(hlo:lo≤w.heap.size):
  Calls Tryz.prog 38 #[.pointer (some ⟨pb,0,none⟩),.slice a n c] w fun e w'=>(∃b,e=.returned (.tuple #[.bool b,.int .i64 (Zjj ar rs t)]))∧ZbH w' lo pb ar (Zjk ar rs t)∧Zah (fun b=>b=pb) w w'∧∀t,Ty w pb t→Ty w' pb t:=by
 by_cases hb:Ziq ar rs t=true
 ·refine(ZhP lo pb ar rs t a n c w h har ht hc hlo hb).mono fun e w' ⟨q1,q2,q3,q4⟩=>⟨⟨true,by rw[q1,Zp5 hb]⟩,?_,q3,q4⟩
  unfold Zjk
  rw[if_pos hb]
  exact q2
 ·have hb:Ziq ar rs t=false:=by simpa using hb
  refine(Zjl lo pb ar rs t a n c w h hl har ht hb).mono fun e w' ⟨q1,q,q2⟩=>?_
  have e1:Ext w w':=by rw[q2];exact Zae zbr q
  refine⟨⟨false,q1⟩,?_,(Zah.refl _ _).ext e1,fun t ht=>ht.ext e1⟩
  unfold Zjk
  rw[if_neg (by rw[hb];simp)]
  exact h.ext e1
theorem ZfW.but {w w':World}{S:Nat→Prop}{a:Option Addr}{c:Nat}{rs:List (List ByteArray)}(h:ZfW w a c rs)(e:Zah S w w')(hs:∀b,S b→¬Ty w b 9∧¬Ty w b 54):ZfW w' a c rs:=by
 obtain⟨hf,B,us,h1,h2⟩:=h
 exact⟨hf,B,us,e.own h1 (fun b hb q=>(hs b q).2 (ZaN h1 hb)),h2.1,fun i r v q1 q2=>e.own (h2.2 i r v q1 q2) (fun b hb q=>(hs b q).1 (ZaN (h2.2 i r v q1 q2) hb))⟩
theorem ZmE (r:ZaQ)(ah:Option Addr)(nh ch:Nat)(ab:Option Addr)(nb cb:Nat)(p1 p2:Value)(w:World)(hr:ZaR w r ah nh ch ab nb cb)(hv:(Zad r).length≤1000000)(hck:Zap r≠0):
  Calls Tryz.prog 8 #[ZeR r ah nh ch ab nb cb,p1,p2] w fun e w'=>e=.returned (.tuple #[.pointer none,.int .i64 (Zap r)])∧Ext w w':=by
 have EA:Hid (∀o,Ext w (w.alloc o)):=fun o=>Zab zbr o
 have CK:Hid (∀o,Calls Tryz.prog 32 #[.agg #[.string r.head.pred,.slice ah nh ch,.slice ab nb cb]] (w.alloc o) fun e w'=>e=.returned (.int .i64 (Zap r))∧Ext (w.alloc o) w'):=fun o=>ZgU r ah nh ch ab nb cb (w.alloc o) (hr.keep (EA.out o)) hv
 obtain⟨C,hC⟩:∃C,Zap r=C:=⟨_,rfl⟩
 rw[hC] at CK hck ⊢
 have q1:(C != 0)=true:=by simpa using hck
 clear hr hv hC hck
 go_enter Tryz.func8,Tryz.ntmps8
 go_wp2_with (go_at_call 32;(with_reducible refine(CK.out _).mono ?_);rintro e w2 ⟨rfl,e2⟩)
 go_returns
 exact⟨rfl,Zaa (EA.out _) e2⟩
open K (ZaG Zda ZaQ)
def OkP (ns vs:List ByteArray)(p:ZaG×ByteArray):Prop:=(p.1.kind=3→p.1.text=p.2)∧(p.1.kind=1→ZbM ns vs p.1.text=some p.2)
theorem Zc3 {v:ByteArray}:∀(ns vs a b:List ByteArray) (x:ByteArray),ZbM ns vs x=some v→ZbM (ns++a) (vs++b) x=some v
 |[],_,_,_,_,h=>by simp[ZbM] at h
 |_::_,[],_,_,_,h=>by simp[ZbM] at h
 |n::ns,u::vs,a,b,x,h=>by
  simp only[List.cons_append,ZbM] at h ⊢
  split at h
  ·rename_i e;rw[if_pos e];exact h
  ·rename_i e;rw[if_neg e];exact Zc3 ns vs a b x h
theorem Zds:∀(ns vs:List ByteArray) (x:ByteArray),ns.length=vs.length→(ZbM ns vs x=none↔x∉ns)
 |[],_,_,_=>by simp[ZbM]
 |_::_,[],_,h=>by simp at h
 |n::ns,u::vs,x,h=>by
  simp only[ZbM,List.mem_cons,not_or]
  have ih:=Zds ns vs x (by simpa using h)
  by_cases e:n=x
  ·rw[if_pos e];subst e;simp
  ·rw[if_neg e,ih];exact⟨fun q=>⟨fun h=>e h.symm,q⟩,fun q=>q.2⟩
theorem ZfZ:∀(ns vs:List ByteArray) (x v:ByteArray),ns.length=vs.length→x∉ns→ZbM (ns++[x]) (vs++[v]) x=some v
 |[],[],x,v,_,_=>by simp[ZbM]
 |[],_::_,_,_,h,_=>by simp at h
 |_::_,[],_,_,h,_=>by simp at h
 |n::ns,u::vs,x,v,h,hx=>by
  simp only[List.mem_cons,not_or] at hx
  simp only[List.cons_append,ZbM]
  rw[if_neg (fun e=>hx.1 e.symm)]
  exact ZfZ ns vs x v (by simpa using h) hx.2
theorem Zeb (ts:List ZaG):∀ns:List ByteArray,∃a,ts.foldl (Zak 1) ns=ns++a:=by
 induction ts with
 |nil=>intro ns;exact⟨[],by simp⟩
 |cons t ts ih=>
  intro ns
  obtain⟨a,ha⟩:=ih (Zak 1 ns t)
  rw[List.foldl_cons,ha]
  unfold Zak
  split
  ·exact⟨t.text::a,by simp⟩
  ·exact⟨a,rfl⟩
theorem Zdd:∀(ts:List ZaG) (ys ns vs:List ByteArray) (f:ZcQ),ys.length=ts.length→ns.length=vs.length→Zbh ts ys ns vs=some f→f.1=ts.foldl (Zak 1) ns∧(∃b,f.2=vs++b)∧f.1.length=f.2.length∧∀p∈ts.zip ys,OkP f.1 f.2 p
 |[],ys,ns,vs,f,h1,h2,h=>by
  unfold Zbh at h
  cases h
  exact⟨rfl,⟨[],by simp⟩,h2,by simp⟩
 |_::_,[],_,_,_,h1,_,_=>by simp at h1
 |t::ts,y::ys,ns,vs,f,h1,h2,h=>by
  unfold Zbh at h
  split at h
  ·cases h
  rename_i hk
  rw[List.foldl_cons]
  split at h
  ·rename_i k1
   have hs:Zak 1 ns t=ns:=by unfold Zak;rw[if_neg (fun q=>k1 q.2.1)]
   obtain⟨q1,q2,q3,q4⟩:=Zdd ts ys ns vs f (by simpa using h1) h2 h
   rw[hs]
   refine⟨q1,q2,q3,fun p hp=>?_⟩
   rcases List.mem_cons.1 (by simpa using hp) with rfl|hp
   ·exact⟨fun q=>by
     by_cases e:t.text=y
     ·exact e
     ·exact absurd ⟨q,e⟩ hk,fun q=>absurd q k1⟩
   ·exact q4 p hp
  ·rename_i k1
   have k1:t.kind=1:=by simpa using k1
   split at h
   ·rename_i s hs
    split at h
    ·rename_i e
     subst e
     have hm:t.text∈ns:=by
      by_cases q:t.text∈ns
      ·exact q
      ·rw[(Zds ns vs t.text h2).2 q] at hs;cases hs
     have hst:Zak 1 ns t=ns:=by unfold Zak;rw[if_neg (fun q=>q.2.2 hm)]
     obtain⟨q1,⟨b,q2⟩,q3,q4⟩:=Zdd ts ys ns vs f (by simpa using h1) h2 h
     rw[hst]
     refine⟨q1,⟨b,q2⟩,q3,fun p hp=>?_⟩
     rcases List.mem_cons.1 (by simpa using hp) with rfl|hp
     ·refine⟨fun q=>by have q:t.kind=3:=q;omega,fun _=>?_⟩
      obtain⟨a,ha⟩:=Zeb ts ns
      rw[q1,q2,ha]
      exact Zc3 _ _ _ _ _ hs
     ·exact q4 p hp
    ·cases h
   ·rename_i hs
    have hm:t.text∉ns:=(Zds ns vs t.text h2).1 hs
    have hst:Zak 1 ns t=ns++[t.text]:=by unfold Zak;rw[if_pos ⟨rfl,k1,hm⟩]
    obtain⟨q1,⟨b,q2⟩,q3,q4⟩:=Zdd ts ys (ns++[t.text]) (vs++[y]) f (by simpa using h1) (by simp[h2]) h
    rw[hst]
    refine⟨q1,⟨y::b,by rw[q2];simp⟩,q3,fun p hp=>?_⟩
    rcases List.mem_cons.1 (by simpa using hp) with rfl|hp
    ·refine⟨fun q=>by have q:t.kind=3:=q;omega,fun _=>?_⟩
     obtain⟨a,ha⟩:=Zeb ts (ns++[t.text])
     rw[q1,q2,ha]
     exact Zc3 _ _ _ _ _ (ZfZ _ _ _ _ h2 hm)
    ·exact q4 p hp
theorem Zg1:∀(ts:List ZaG) (ys ns vs b:List ByteArray),ys.length=ts.length→ns.length=vs.length→(ts.foldl (Zak 1) ns).length=(vs++b).length→(∀p∈ts.zip ys,OkP (ts.foldl (Zak 1) ns) (vs++b) p)→Zbh ts ys ns vs=some (ts.foldl (Zak 1) ns,vs++b)
 |[],ys,ns,vs,b,h1,h2,h3,_=>by
  have:b=[]:=by
   simp at h3
   exact List.eq_nil_of_length_eq_zero (by omega)
  subst this
  simp[Zbh]
 |_::_,[],_,_,_,h1,_,_,_=>by simp at h1
 |t::ts,y::ys,ns,vs,b,h1,h2,h3,h4=>by
  rw[List.foldl_cons] at h3 h4 ⊢
  have hp:=h4 (t,y) (by simp)
  have ht:∀p∈ts.zip ys,OkP (ts.foldl (Zak 1) (Zak 1 ns t)) (vs++b) p:=fun p q=>h4 p (by simp only[List.zip_cons_cons,List.mem_cons];exact .inr q)
  unfold Zbh
  rw[if_neg (fun q=>q.2 (hp.1 q.1))]
  by_cases k1:t.kind=1
  ·rw[if_neg (by simpa using k1)]
   have hv:=hp.2 k1
   by_cases hm:t.text∈ns
   ·have hst:Zak 1 ns t=ns:=by unfold Zak;rw[if_neg (fun q=>q.2.2 hm)]
    rw[hst] at h3 hv ht ⊢
    cases hs:ZbM ns vs t.text with
    |none=>exact absurd hm ((Zds ns vs t.text h2).1 hs)
    |some s=>
     obtain⟨a,ha⟩:=Zeb ts ns
     have:=Zc3 ns vs a b _ hs
     rw[ha,this] at hv
     cases hv
     simp only[if_true]
     exact Zg1 ts ys ns vs b (by simpa using h1) h2 h3 ht
   ·have hst:Zak 1 ns t=ns++[t.text]:=by unfold Zak;rw[if_pos ⟨rfl,k1,hm⟩]
    rw[hst] at h3 hv ht ⊢
    rw[(Zds ns vs t.text h2).2 hm]
    obtain⟨a,ha⟩:=Zeb ts (ns++[t.text])
    cases b with
    |nil=>
     rw[ha] at h3
     simp at h3
     omega
    |cons u b=>
     have e:=Zc3 (ns++[t.text]) (vs++[u]) a b _ (ZfZ ns vs t.text u h2 hm)
     rw[ha,show vs++u::b=(vs++[u])++b by simp,e] at hv
     cases hv
     have ih:=Zg1 ts ys (ns++[t.text]) (vs++[y]) b (by simpa using h1) (by simp[h2]) (by simpa using h3) (by simpa using ht)
     simpa using ih
  ·have hst:Zak 1 ns t=ns:=by unfold Zak;rw[if_neg (fun q=>k1 q.2.1)]
   rw[hst] at h3 ht ⊢
   rw[if_pos (by simpa using k1)]
   exact Zg1 ts ys ns vs b (by simpa using h1) h2 h3 ht
