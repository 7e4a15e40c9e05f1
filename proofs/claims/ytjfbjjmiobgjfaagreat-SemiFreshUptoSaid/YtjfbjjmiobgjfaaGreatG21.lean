/- The calls of tuple.Base that add to it: Add, Declare. -/
import Derived.Test.YtjfbjjmiobgjfaaGreatG20
import Derived.StillTailTactics
set_option maxRecDepth 100000
set_option maxHeartbeats 8000000
namespace Go.Proofs.YtjfbjjmiobgjfaaGreat
open ChangeShapes WideShapes ChangeAt RowKit
def BAdd (lo bb:Nat)(f:ZaT)(k:ByteArray)(t:List ByteArray)(w:World)(e:Ending)(w':World):Prop:=(∃b q,e=.returned (.tuple #[.bool b,.int .i64 q])∧(q=0→∃pb,Zbo w' lo bb (ZbK f k (pb,Zj9 f k t,ZaO (ZeH f k) t))∧Zd6 bb f (ZbK f k (pb,Zj9 f k t,ZaO (ZeH f k) t)) w w'∧t.length=Zj9 f k t∧ZaP t=true)∧ZhR bb f k t w w' q)∧Zah (Zb6 w bb f) w w'
theorem Zbo.fin {w:World}{lo bb:Nat}{f f1:ZaT}{k:ByteArray}{x:Nat×Nat×List (List ByteArray)}(h:ZbZ w lo bb (ZbK f1 k x))(m:Zb0 w lo bb (ZbK (fun k=>(f k).map fun x=>x.1) k x.1))(h1:f1=f∨∃y,f1=ZbK f k y):Zbo w lo bb (ZbK f k x):=by
 have e:ZbK f1 k x=ZbK f k x:=by
  rcases h1 with rfl|⟨y,rfl⟩
  ·rfl
  ·funext z
   unfold ZbK
   split <;> rfl
 rw[e] at h
 refine⟨h,?_⟩
 have e2:(fun z=>(ZbK f k x z).map fun x=>x.1)=ZbK (fun k=>(f k).map fun x=>x.1) k x.1:=by
  funext z
  unfold ZbK
  split <;> rfl
 rw[e2]
 exact m
theorem ZnP {α:Type}(f:ByteArray→Option α)(k:ByteArray)(x y:α):ZbK (ZbK f k x) k y=ZbK f k y:=by
 funext z
 unfold ZbK
 split <;> rfl
theorem Zjs (rs:List (List ByteArray))(t:List ByteArray)(hm:ZaP t=true):Za5 t.length rs t=(if 65536≤rs.length∧ZaX rs t=false then 4 else 0):=by
 unfold Za5
 rw[if_neg (by simp),if_neg (by simp[hm])]
theorem Zrf (lo bb:Nat)(f:ZaT)(k:ByteArray)(t:List ByteArray)(a:Option Addr)(n c:Nat)(w:World)(h:Zbo w lo bb f)(ht:Zai w a n t)(hnil:a=none→n=0∧c=0)(hn1:n≤8796093022207):
  Calls Tryz.prog 52 #[.pointer (some ⟨bb,0,none⟩),.string k,.slice a n c] w (BAdd lo bb f k t w):=by
 have H:=zh h
 have HT:=zh ht
 have HNIL:=zh hnil
 have HLEN:Hid (t.length=n):=ht.2.1
 obtain⟨mb,h1,hl⟩:=h.look k
 obtain⟨n0,cn⟩:=h.r.n
 obtain⟨bn,hbn⟩:∃b,ZbA k=b:=⟨_,rfl⟩
 have NM:=zh (ZnK k w)
 rw[hbn] at NM
 have NMR:=zh (fun (q1:1=1)=>q1)
 have HBN:=zh hbn
 clear h ht hnil hbn NMR
 cases bn with
 |false=>
  clear hl
  go_enter Tryz.func52,Tryz.ntmps52
  go_wp2_with (go_at_call 97;(with_reducible refine NM.out.mono ?_);rintro e w1 ⟨rfl,hw1⟩;obtain rfl:=hw1.symm)
  go_ret2
  exact⟨⟨_,_,rfl,(fun q=>by cases q),ZhR.no (by decide) (by unfold ZhB;rw[if_pos HBN.out])⟩,Zah.refl _ _⟩
 |true=>
  cases hf:f k with
  |none=>
   rw[hf] at hl
   have HF:=zh hf
   have HA0:Hid (Zj9 f k t=n∧ZeH f k=[]):=⟨by unfold Zj9;rw[hf];exact HLEN.out,by unfold ZeH;rw[hf]⟩
   have HX:=zh (Ziw HBN.out HA0.out)
   have hl1:(Instr.lookup 93 (.map (some mb)) (.string k) false).run Tryz.prog w=.ok (.pointer none) w:=hl
   clear hl hf
   by_cases h64:n≤64
   ·obtain⟨pb,hpb⟩:∃pb,w.heap.size=pb:=⟨_,rfl⟩
    have HPB:=zh hpb
    have NR:=zh (Zeo n h64 w)
    rw[hpb] at NR
    clear hpb
    have hnn:((n:Int) != (n:Int))=false:=by simp
    have P0:Hid (∀W,Zay W (pb+1) pb n []→Ty W pb 100→ZaJ W pb=none→Ext w W→ZbZ W lo bb (ZbK f k (pb,n,[]))∧Zb0 W lo bb (fun k=>(f k).map fun x=>x.1)∧Zai W a n t∧Zd6 bb f (ZbK f k (pb,n,[])) w W):=fun W q1 q2 q3 q4=>⟨(H.out.r.fresh k q4 (Nat.le_of_eq HPB.out) q1 q2 q3 h64).1,H.out.m.ext q4,HT.out.keep q4,(H.out.r.fresh k q4 (Nat.le_of_eq HPB.out) q1 q2 q3 h64).2⟩
    have OK1:Hid (Zbs n []):=Zbs.nil h64
    have X30:Hid (¬(t.length≠n∨64<t.length)):=by have:=HLEN.out;show ¬_;omega
    have TX:Hid (∀W,Zai W a n t→Calls Tryz.prog 68 #[.slice a n c] W fun e w'=>e=.returned (.bool (ZaP t))∧w'=W):=fun W q=>ZcG t _ _ _ _ q
    have HS:Hid (∀W,Zay W (pb+1) pb n []→Zai W a n t→Calls Tryz.prog 70 #[.pointer (some ⟨pb,0,none⟩),.slice a n c] W fun e w'=>e=.returned (.bool (ZaX [] t))∧w'=W):=fun W q q2=>ZhO _ pb n [] t a _ c W q OK1.out.up (by have:=OK1.out.few;omega) q2
    have AD:Hid (∀W,Zay W (pb+1) pb n []→Zai W a n t→pb<W.heap.size→Calls Tryz.prog 29 #[.pointer (some ⟨pb,0,none⟩),.slice a n c] W (Zmu (pb+1) pb n [] t W)):=fun W q q2 q3=>Zkt _ pb n [] t a _ c W q OK1.out.up q2 HNIL.out hn1 OK1.out.few q3
    have PU:Hid (∀W f m,ZbZ W lo bb f→Zb0 W lo bb m→Calls Tryz.prog 98 #[.pointer (some ⟨bb,0,none⟩),.string k,.pointer (some ⟨pb,0,none⟩)] W fun e w'=>(∃v,e=.returned v)∧ZbZ w' lo bb f∧Zb0 w' lo bb (ZbK m k pb)∧Zah (fun b=>lo≤b) W w'∧Zd6 bb f f W w'∧∀o v,W.cell? ⟨bb,o,none⟩=some v→w'.cell? ⟨bb,o,none⟩=some v):=fun W f m q q2=>ZnL lo bb pb f m k W q q2
    obtain⟨bm,hbm⟩:∃b,ZaP t=b:=⟨_,rfl⟩
    have HBM:=zh hbm
    rw[hbm] at TX
    obtain⟨bg,hbg⟩:∃b,decide ((262144:Int)≤n0)=b:=⟨_,rfl⟩
    obtain⟨bf,hbf⟩:∃b,ZaX [] t=b:=⟨_,rfl⟩
    have HBF:=zh hbf
    rw[hbf] at HS
    clear hbm hbf
    cases bm with
    |false=>
     go_enter Tryz.func52,Tryz.ntmps52
     go_wp2_with (first
      |(go_at_call 97;(with_reducible refine NM.out.mono ?_);rintro e w0 ⟨rfl,hw0⟩;obtain rfl:=hw0.symm)
      |(go_at_call 24;(with_reducible refine NR.out.mono ?_);rintro e w1 ⟨rfl,v1,t1,i1,e1,z1⟩;obtain⟨r1,m1,s1,b1⟩:=P0.out w1 v1 t1 i1 e1;have c2:=v1.c2;have cn1:=Zac e1 cn;have hp1:pb<w1.heap.size:=by rw[z1];omega)
      |(go_at_call 68;(with_reducible refine(TX.out _ s1).mono ?_);rintro e w2 ⟨rfl,hw2⟩;obtain rfl:=hw2.symm))
     go_ret2
     exact⟨⟨_,_,rfl,(fun q=>by cases q),ZhR.no (by decide) (by rw[HX.out,if_neg X30.out,if_pos HBM.out])⟩,b1.but⟩
    |true=>
     have AE:Hid (Za5 n [] t=if 65536≤([]:List (List ByteArray)).length∧ZaX [] t=false then 4 else 0):=by have q:=Zjs [] t HBM.out;rw[HLEN.out] at q;exact q
     cases bf with
     |true=>
      have ADD:Hid (∀W,Zay W (pb+1) pb n []→Zai W a n t→pb<W.heap.size→Calls Tryz.prog 29 #[.pointer (some ⟨pb,0,none⟩),.slice a n c] W fun e w'=>e=.returned (.tuple #[.bool false,.int .i64 0])∧Zay w' (pb+1) pb n (ZbY n [] t)∧Zfu pb W w'):=fun W q q2 q3=>(AD.out W q q2 q3).mono fun e w' ⟨u1,u2,u3⟩=>⟨by rw[u1,AE.out,HBF.out];simp,u2,u3⟩
      have FIN:Hid (ZbY n [] t=ZaO [] t):=by show _=_;unfold ZbY;rw[AE.out,HBF.out];simp
      clear AD
      cases bg
      all_goals
       go_enter Tryz.func52,Tryz.ntmps52
       go_wp2_with (first
        |(go_at_call 97;(with_reducible refine NM.out.mono ?_);rintro e w0 ⟨rfl,hw0⟩;obtain rfl:=hw0.symm)
        |(go_at_call 24;(with_reducible refine NR.out.mono ?_);rintro e w1 ⟨rfl,v1,t1,i1,e1,z1⟩;obtain⟨r1,m1,s1,b1⟩:=P0.out w1 v1 t1 i1 e1;have c2:=v1.c2;have cn1:=Zac e1 cn;have hp1:pb<w1.heap.size:=by rw[z1];omega)
        |(go_at_call 68;(with_reducible refine(TX.out _ s1).mono ?_);rintro e w2 ⟨rfl,hw2⟩;obtain rfl:=hw2.symm)
        |(go_at_call 70;(with_reducible refine(HS.out _ v1 s1).mono ?_);rintro e w2 ⟨rfl,hw2⟩;obtain rfl:=hw2.symm)
        |(go_at_call 29;(with_reducible refine(ADD.out _ v1 s1 hp1).mono ?_);rintro e w3 ⟨rfl,v3,f3⟩;obtain⟨r3,m3,_,b3,s3⟩:=ZbZ.added r1 (by unfold ZbK;rw[if_pos rfl]) f3 v3 (OK1.out.add t))
        |(go_at_call 98;(with_reducible refine(PU.out _ _ _ r3 (m3 _ m1)).mono ?_);rintro e w4 ⟨⟨v4,rfl⟩,r4,m4,_,b4,s4⟩;have c4:=s4 _ _ (s3 _ _ cn1);have z4:=r4.free))
       go_ret2
       rw[FIN.out] at r4 b3 b4
       refine⟨⟨_,_,rfl,fun _=>⟨pb,?_,?_,by rw[HA0.out.1];exact HLEN.out,HBM.out⟩,ZhR.ok cn (by rw[HX.out,if_neg X30.out,if_neg (by rw[HBM.out];simp),if_neg (by rw[HBF.out];simp)]) c4 (fun _ _=>⟨by omega,by omega⟩) (fun v hv=>s4 _ _ (s3 _ _ (Zac e1 hv)))⟩,((b1.trans b3).trans b4).but⟩
       rw[HA0.out.1,HA0.out.2]
       ·exact Zbo.fin r4 m4 (.inr ⟨_,rfl⟩)
       ·rw[HA0.out.1,HA0.out.2]
        rw[←ZnP f k (pb,n,[]) (pb,n,ZaO [] t)]
        exact((b1.trans b3).trans b4)
     |false=>
      cases bg with
      |true=>
       go_enter Tryz.func52,Tryz.ntmps52
       go_wp2_with (first
        |(go_at_call 97;(with_reducible refine NM.out.mono ?_);rintro e w0 ⟨rfl,hw0⟩;obtain rfl:=hw0.symm)
        |(go_at_call 24;(with_reducible refine NR.out.mono ?_);rintro e w1 ⟨rfl,v1,t1,i1,e1,z1⟩;obtain⟨r1,m1,s1,b1⟩:=P0.out w1 v1 t1 i1 e1;have c2:=v1.c2;have cn1:=Zac e1 cn;have hp1:pb<w1.heap.size:=by rw[z1];omega)
        |(go_at_call 68;(with_reducible refine(TX.out _ s1).mono ?_);rintro e w2 ⟨rfl,hw2⟩;obtain rfl:=hw2.symm)
        |(go_at_call 70;(with_reducible refine(HS.out _ v1 s1).mono ?_);rintro e w2 ⟨rfl,hw2⟩;obtain rfl:=hw2.symm))
       go_ret2
       exact⟨⟨_,_,rfl,(fun q=>by cases q),ZhR.full cn hbg⟩,b1.but⟩
      |false=>
       by_cases hfull:65536≤([]:List (List ByteArray)).length
       ·have ADD:Hid (∀W,Zay W (pb+1) pb n []→Zai W a n t→pb<W.heap.size→Calls Tryz.prog 29 #[.pointer (some ⟨pb,0,none⟩),.slice a n c] W fun e w'=>e=.returned (.tuple #[.bool false,.int .i64 4])∧Zay w' (pb+1) pb n (ZbY n [] t)∧Zfu pb W w'):=fun W q q2 q3=>(AD.out W q q2 q3).mono fun e w' ⟨u1,u2,u3⟩=>⟨by rw[u1,AE.out,HBF.out,if_pos ⟨hfull,rfl⟩];rfl,u2,u3⟩
        clear AD
        go_enter Tryz.func52,Tryz.ntmps52
        go_wp2_with (first
         |(go_at_call 97;(with_reducible refine NM.out.mono ?_);rintro e w0 ⟨rfl,hw0⟩;obtain rfl:=hw0.symm)
         |(go_at_call 24;(with_reducible refine NR.out.mono ?_);rintro e w1 ⟨rfl,v1,t1,i1,e1,z1⟩;obtain⟨r1,m1,s1,b1⟩:=P0.out w1 v1 t1 i1 e1;have c2:=v1.c2;have cn1:=Zac e1 cn;have hp1:pb<w1.heap.size:=by rw[z1];omega)
         |(go_at_call 68;(with_reducible refine(TX.out _ s1).mono ?_);rintro e w2 ⟨rfl,hw2⟩;obtain rfl:=hw2.symm)
         |(go_at_call 29;(with_reducible refine(ADD.out _ v1 s1 hp1).mono ?_);rintro e w3 ⟨rfl,v3,f3⟩;obtain⟨r3,m3,_,b3,s3⟩:=ZbZ.added r1 (by unfold ZbK;rw[if_pos rfl]) f3 v3 (OK1.out.add t)))
        go_ret2
        exact⟨⟨_,_,rfl,(fun q=>by cases q),ZhR.no (by decide) (by rw[HX.out,if_neg X30.out,if_neg (by rw[HBM.out];simp),if_pos ⟨hfull,HBF.out⟩])⟩,(b1.trans b3).but⟩
       ·have ADD:Hid (∀W,Zay W (pb+1) pb n []→Zai W a n t→pb<W.heap.size→Calls Tryz.prog 29 #[.pointer (some ⟨pb,0,none⟩),.slice a n c] W fun e w'=>e=.returned (.tuple #[.bool true,.int .i64 0])∧Zay w' (pb+1) pb n (ZbY n [] t)∧Zfu pb W w'):=fun W q q2 q3=>(AD.out W q q2 q3).mono fun e w' ⟨u1,u2,u3⟩=>⟨by rw[u1,AE.out,HBF.out,if_neg (fun h=>hfull h.1)];rfl,u2,u3⟩
        have FIN:Hid (ZbY n [] t=ZaO [] t):=by show _=_;unfold ZbY;rw[AE.out];simp
        clear AD
        go_enter Tryz.func52,Tryz.ntmps52
        go_wp2_with (first
         |(go_at_call 97;(with_reducible refine NM.out.mono ?_);rintro e w0 ⟨rfl,hw0⟩;obtain rfl:=hw0.symm)
         |(go_at_call 24;(with_reducible refine NR.out.mono ?_);rintro e w1 ⟨rfl,v1,t1,i1,e1,z1⟩;obtain⟨r1,m1,s1,b1⟩:=P0.out w1 v1 t1 i1 e1;have c2:=v1.c2;have cn1:=Zac e1 cn;have hp1:pb<w1.heap.size:=by rw[z1];omega)
         |(go_at_call 68;(with_reducible refine(TX.out _ s1).mono ?_);rintro e w2 ⟨rfl,hw2⟩;obtain rfl:=hw2.symm)
         |(go_at_call 29;(with_reducible refine(ADD.out _ v1 s1 hp1).mono ?_);rintro e w3 ⟨rfl,v3,f3⟩;obtain⟨r3,m3,_,b3,s3⟩:=ZbZ.added r1 (by unfold ZbK;rw[if_pos rfl]) f3 v3 (OK1.out.add t))
         |(go_at_call 98;(with_reducible refine(PU.out _ _ _ r3 (m3 _ m1)).mono ?_);rintro e w4 ⟨⟨v4,rfl⟩,r4,m4,_,b4,s4⟩;have c4:=s4 _ _ (s3 _ _ cn1);have z4:=r4.free))
        go_ret2
        rw[FIN.out] at r4 b3 b4
        skip
        refine⟨⟨_,_,rfl,fun _=>⟨pb,?_,?_,by rw[HA0.out.1];exact HLEN.out,HBM.out⟩,ZhR.ok cn (by rw[HX.out,if_neg X30.out,if_neg (by rw[HBM.out];simp),if_neg (fun h=>hfull h.1)]) (World.cell?_setCell_same _ _ _ c4) (fun h1 h2=>by constructor <;> (try simp only[wrap64]) <;> omega) (fun v hv=>(World.cell?_setCell_other _ _ _ _ (by simp)).trans (s4 _ _ (s3 _ _ (Zac e1 hv))))⟩,(((b1.trans b3).trans b4).trans (r4.count _).2.2.2).but⟩
        rw[HA0.out.1,HA0.out.2]
        ·exact Zbo.fin (r4.count _).1 ((r4.count _).2.1 _ m4) (.inr ⟨_,rfl⟩)
        ·rw[HA0.out.1,HA0.out.2]
         rw[←ZnP f k (pb,n,[]) (pb,n,ZaO [] t)]
         exact(((b1.trans b3).trans b4).trans (r4.count _).2.2.2)
   ·have NR:=zh (Zgi (n:Int) (.inr (by omega)) w)
    go_enter Tryz.func52,Tryz.ntmps52
    go_wp2_with (first
     |(go_at_call 97;(with_reducible refine NM.out.mono ?_);rintro e w1 ⟨rfl,hw1⟩;obtain rfl:=hw1.symm)
     |(go_at_call 24;(with_reducible refine NR.out.mono ?_);rintro e w1 ⟨rfl,hw1⟩;obtain rfl:=hw1.symm))
    go_ret2
    exact⟨⟨_,_,rfl,(fun q=>by cases q),ZhR.no (by decide) (by rw[HX.out,if_pos (.inr (by have:=HLEN.out;omega))])⟩,Zah.refl _ _⟩
  |some x=>
   obtain⟨pb,ar,rs⟩:=x
   rw[hf] at hl
   have HF:=zh hf
   have HA0:Hid (Zj9 f k t=ar∧ZeH f k=rs):=⟨by unfold Zj9;rw[hf],by unfold ZeH;rw[hf]⟩
   have HX:=zh (Ziw HBN.out HA0.out)
   have hl1:(Instr.lookup 93 (.map (some mb)) (.string k) false).run Tryz.prog w=.ok (.pointer (some ⟨pb,0,none⟩)) w:=hl
   have c2:=(H.out.r.rel k _ hf).2.1.c2
   simp only at c2
   clear hl hf
   by_cases hne:ar=n
   ·subst hne
    have hnn:((ar:Int) != (ar:Int))=false:=by simp
    have OK1:Hid (Zbs ar rs):=(H.out.r.rel k _ HF.out).2.2.2
    have X30:Hid (¬(t.length≠ar∨64<t.length)):=by have:=HLEN.out;have:=OK1.out.wide;show ¬_;omega
    have TX:Hid (∀W,Zai W a ar t→Calls Tryz.prog 68 #[.slice a ar c] W fun e w'=>e=.returned (.bool (ZaP t))∧w'=W):=fun W q=>ZcG t _ _ _ _ q
    have HS:Hid (∀W,Zay W (pb+1) pb ar rs→Zai W a ar t→Calls Tryz.prog 70 #[.pointer (some ⟨pb,0,none⟩),.slice a ar c] W fun e w'=>e=.returned (.bool (ZaX rs t))∧w'=W):=fun W q q2=>ZhO _ pb ar rs t a _ c W q OK1.out.up (by have:=OK1.out.few;omega) q2
    have AD:Hid (∀W,Zay W (pb+1) pb ar rs→Zai W a ar t→pb<W.heap.size→Calls Tryz.prog 29 #[.pointer (some ⟨pb,0,none⟩),.slice a ar c] W (Zmu (pb+1) pb ar rs t W)):=fun W q q2 q3=>Zkt _ pb ar rs t a _ c W q OK1.out.up q2 HNIL.out hn1 OK1.out.few q3
    have PU:Hid (∀W f m,ZbZ W lo bb f→Zb0 W lo bb m→Calls Tryz.prog 98 #[.pointer (some ⟨bb,0,none⟩),.string k,.pointer (some ⟨pb,0,none⟩)] W fun e w'=>(∃v,e=.returned v)∧ZbZ w' lo bb f∧Zb0 w' lo bb (ZbK m k pb)∧Zah (fun b=>lo≤b) W w'∧Zd6 bb f f W w'∧∀o v,W.cell? ⟨bb,o,none⟩=some v→w'.cell? ⟨bb,o,none⟩=some v):=fun W f m q q2=>ZnL lo bb pb f m k W q q2
    have v1:=zh (H.out.r.rel k _ HF.out).2.1
    have hp1:=(H.out.r.rel k _ HF.out).2.2.1.lt
    simp only at hp1
    obtain⟨bm,hbm⟩:∃b,ZaP t=b:=⟨_,rfl⟩
    have HBM:=zh hbm
    rw[hbm] at TX
    obtain⟨bg,hbg⟩:∃b,decide ((262144:Int)≤n0)=b:=⟨_,rfl⟩
    obtain⟨bf,hbf⟩:∃b,ZaX rs t=b:=⟨_,rfl⟩
    have HBF:=zh hbf
    rw[hbf] at HS
    clear hbm hbf
    cases bm with
    |false=>
     go_enter Tryz.func52,Tryz.ntmps52
     go_wp2_with (first
      |(go_at_call 97;(with_reducible refine NM.out.mono ?_);rintro e w0 ⟨rfl,hw0⟩;obtain rfl:=hw0.symm)
      |(go_at_call 68;(with_reducible refine(TX.out _ HT.out).mono ?_);rintro e w2 ⟨rfl,hw2⟩;obtain rfl:=hw2.symm))
     go_ret2
     exact⟨⟨_,_,rfl,(fun q=>by cases q),ZhR.no (by decide) (by rw[HX.out,if_neg X30.out,if_pos HBM.out])⟩,(Zah.refl _ _)⟩
    |true=>
     have AE:Hid (Za5 ar rs t=if 65536≤(rs:List (List ByteArray)).length∧ZaX rs t=false then 4 else 0):=by have q:=Zjs rs t HBM.out;rw[HLEN.out] at q;exact q
     cases bf with
     |true=>
      have ADD:Hid (∀W,Zay W (pb+1) pb ar rs→Zai W a ar t→pb<W.heap.size→Calls Tryz.prog 29 #[.pointer (some ⟨pb,0,none⟩),.slice a ar c] W fun e w'=>e=.returned (.tuple #[.bool false,.int .i64 0])∧Zay w' (pb+1) pb ar (ZbY ar rs t)∧Zfu pb W w'):=fun W q q2 q3=>(AD.out W q q2 q3).mono fun e w' ⟨u1,u2,u3⟩=>⟨by rw[u1,AE.out,HBF.out];simp,u2,u3⟩
      have FIN:Hid (ZbY ar rs t=ZaO rs t):=by show _=_;unfold ZbY;rw[AE.out,HBF.out];simp
      clear AD
      cases bg
      all_goals
       go_enter Tryz.func52,Tryz.ntmps52
       go_wp2_with (first
        |(go_at_call 97;(with_reducible refine NM.out.mono ?_);rintro e w0 ⟨rfl,hw0⟩;obtain rfl:=hw0.symm)
        |(go_at_call 68;(with_reducible refine(TX.out _ HT.out).mono ?_);rintro e w2 ⟨rfl,hw2⟩;obtain rfl:=hw2.symm)
        |(go_at_call 70;(with_reducible refine(HS.out _ v1.out HT.out).mono ?_);rintro e w2 ⟨rfl,hw2⟩;obtain rfl:=hw2.symm)
        |(go_at_call 29;(with_reducible refine(ADD.out _ v1.out HT.out hp1).mono ?_);rintro e w3 ⟨rfl,v3,f3⟩;obtain⟨r3,m3,_,b3,s3⟩:=ZbZ.added H.out.r HF.out f3 v3 (OK1.out.add t))
        |(go_at_call 98;(with_reducible refine(PU.out _ _ _ r3 (m3 _ H.out.m)).mono ?_);rintro e w4 ⟨⟨v4,rfl⟩,r4,m4,_,b4,s4⟩;have c4:=s4 _ _ (s3 _ _ cn);have z4:=r4.free))
       go_ret2
       rw[FIN.out] at r4 b3 b4
       refine⟨⟨_,_,rfl,fun _=>⟨pb,?_,?_,by rw[HA0.out.1];exact HLEN.out,HBM.out⟩,ZhR.ok cn (by rw[HX.out,if_neg X30.out,if_neg (by rw[HBM.out];simp),if_neg (by rw[HBF.out];simp)]) c4 (fun _ _=>⟨by omega,by omega⟩) (fun v hv=>s4 _ _ (s3 _ _ hv))⟩,(b3.trans b4).but⟩
       rw[HA0.out.1,HA0.out.2]
       ·exact Zbo.fin r4 m4 (.inl rfl)
       ·rw[HA0.out.1,HA0.out.2]
        exact(b3.trans b4)
     |false=>
      cases bg with
      |true=>
       go_enter Tryz.func52,Tryz.ntmps52
       go_wp2_with (first
        |(go_at_call 97;(with_reducible refine NM.out.mono ?_);rintro e w0 ⟨rfl,hw0⟩;obtain rfl:=hw0.symm)
        |(go_at_call 68;(with_reducible refine(TX.out _ HT.out).mono ?_);rintro e w2 ⟨rfl,hw2⟩;obtain rfl:=hw2.symm)
        |(go_at_call 70;(with_reducible refine(HS.out _ v1.out HT.out).mono ?_);rintro e w2 ⟨rfl,hw2⟩;obtain rfl:=hw2.symm))
       go_ret2
       exact⟨⟨_,_,rfl,(fun q=>by cases q),ZhR.full cn hbg⟩,(Zah.refl _ _)⟩
      |false=>
       by_cases hfull:65536≤(rs:List (List ByteArray)).length
       ·have ADD:Hid (∀W,Zay W (pb+1) pb ar rs→Zai W a ar t→pb<W.heap.size→Calls Tryz.prog 29 #[.pointer (some ⟨pb,0,none⟩),.slice a ar c] W fun e w'=>e=.returned (.tuple #[.bool false,.int .i64 4])∧Zay w' (pb+1) pb ar (ZbY ar rs t)∧Zfu pb W w'):=fun W q q2 q3=>(AD.out W q q2 q3).mono fun e w' ⟨u1,u2,u3⟩=>⟨by rw[u1,AE.out,HBF.out,if_pos ⟨hfull,rfl⟩];rfl,u2,u3⟩
        clear AD
        go_enter Tryz.func52,Tryz.ntmps52
        go_wp2_with (first
         |(go_at_call 97;(with_reducible refine NM.out.mono ?_);rintro e w0 ⟨rfl,hw0⟩;obtain rfl:=hw0.symm)
         |(go_at_call 68;(with_reducible refine(TX.out _ HT.out).mono ?_);rintro e w2 ⟨rfl,hw2⟩;obtain rfl:=hw2.symm)
         |(go_at_call 29;(with_reducible refine(ADD.out _ v1.out HT.out hp1).mono ?_);rintro e w3 ⟨rfl,v3,f3⟩;obtain⟨r3,m3,_,b3,s3⟩:=ZbZ.added H.out.r HF.out f3 v3 (OK1.out.add t)))
        go_ret2
        exact⟨⟨_,_,rfl,(fun q=>by cases q),ZhR.no (by decide) (by rw[HX.out,if_neg X30.out,if_neg (by rw[HBM.out];simp),if_pos ⟨hfull,HBF.out⟩])⟩,b3.but⟩
       ·have ADD:Hid (∀W,Zay W (pb+1) pb ar rs→Zai W a ar t→pb<W.heap.size→Calls Tryz.prog 29 #[.pointer (some ⟨pb,0,none⟩),.slice a ar c] W fun e w'=>e=.returned (.tuple #[.bool true,.int .i64 0])∧Zay w' (pb+1) pb ar (ZbY ar rs t)∧Zfu pb W w'):=fun W q q2 q3=>(AD.out W q q2 q3).mono fun e w' ⟨u1,u2,u3⟩=>⟨by rw[u1,AE.out,HBF.out,if_neg (fun h=>hfull h.1)];rfl,u2,u3⟩
        have FIN:Hid (ZbY ar rs t=ZaO rs t):=by show _=_;unfold ZbY;rw[AE.out];simp[hfull]
        clear AD
        go_enter Tryz.func52,Tryz.ntmps52
        go_wp2_with (first
         |(go_at_call 97;(with_reducible refine NM.out.mono ?_);rintro e w0 ⟨rfl,hw0⟩;obtain rfl:=hw0.symm)
         |(go_at_call 68;(with_reducible refine(TX.out _ HT.out).mono ?_);rintro e w2 ⟨rfl,hw2⟩;obtain rfl:=hw2.symm)
         |(go_at_call 29;(with_reducible refine(ADD.out _ v1.out HT.out hp1).mono ?_);rintro e w3 ⟨rfl,v3,f3⟩;obtain⟨r3,m3,_,b3,s3⟩:=ZbZ.added H.out.r HF.out f3 v3 (OK1.out.add t))
         |(go_at_call 98;(with_reducible refine(PU.out _ _ _ r3 (m3 _ H.out.m)).mono ?_);rintro e w4 ⟨⟨v4,rfl⟩,r4,m4,_,b4,s4⟩;have c4:=s4 _ _ (s3 _ _ cn);have z4:=r4.free))
        go_ret2
        rw[FIN.out] at r4 b3 b4
        skip
        refine⟨⟨_,_,rfl,fun _=>⟨pb,?_,?_,by rw[HA0.out.1];exact HLEN.out,HBM.out⟩,ZhR.ok cn (by rw[HX.out,if_neg X30.out,if_neg (by rw[HBM.out];simp),if_neg (fun h=>hfull h.1)]) (World.cell?_setCell_same _ _ _ c4) (fun h1 h2=>by constructor <;> (try simp only[wrap64]) <;> omega) (fun v hv=>(World.cell?_setCell_other _ _ _ _ (by simp)).trans (s4 _ _ (s3 _ _ hv)))⟩,((b3.trans b4).trans (r4.count _).2.2.2).but⟩
        rw[HA0.out.1,HA0.out.2]
        ·exact Zbo.fin (r4.count _).1 ((r4.count _).2.1 _ m4) (.inl rfl)
        ·rw[HA0.out.1,HA0.out.2]
         exact((b3.trans b4).trans (r4.count _).2.2.2)
   ·have hne2:¬((ar:Int)=(n:Int)):=by omega
    go_enter Tryz.func52,Tryz.ntmps52
    go_wp2_with (go_at_call 97;(with_reducible refine NM.out.mono ?_);rintro e w1 ⟨rfl,hw1⟩;obtain rfl:=hw1.symm)
    go_ret2
    exact⟨⟨_,_,rfl,(fun q=>by cases q),ZhR.no (by decide) (by rw[HX.out,if_pos (.inl (by have:=HLEN.out;omega))])⟩,Zah.refl _ _⟩
def ZdN (f:ZaT)(k:ByteArray)(pb ar:Nat):ZaT:=match f k with
 |some _=>f
 |none=>ZbK f k (pb,ar,[])
def ZuK (lo bb:Nat)(f:ZaT)(k:ByteArray)(ar:Int)(w:World)(e:Ending)(w':World):Prop:=(∃q,e=.returned (.int .i64 q)∧(q=0→∃pb,0≤ar∧Zbo w' lo bb (ZdN f k pb ar.toNat)∧Zd6 bb f (ZdN f k pb ar.toNat) w w')∧q=Zc1 (Za2 f) k ar∧(q=0→∀v,w.cell? ⟨bb,1,none⟩=some v→w'.cell? ⟨bb,1,none⟩=some v))∧Zah (Zb6 w bb f) w w'
theorem ZnQ (lo bb:Nat)(f:ZaT)(k:ByteArray)(ar:Int)(w:World)(h:Zbo w lo bb f):
  Calls Tryz.prog 51 #[.pointer (some ⟨bb,0,none⟩),.string k,.int .i64 ar] w (ZuK lo bb f k ar w):=by
 have H:=zh h
 obtain⟨bn,hbn⟩:∃b,ZbA k=b:=⟨_,rfl⟩
 have NM:=zh (ZnK k w)
 have HBN:=zh hbn
 rw[hbn] at NM
 clear hbn
 cases bn with
 |false=>
  clear h
  go_enter Tryz.func51,Tryz.ntmps51
  go_wp2_with (go_at_call 97;(with_reducible refine NM.out.mono ?_);rintro e w1 ⟨rfl,hw1⟩;obtain rfl:=hw1.symm)
  go_returns
  exact⟨⟨_,rfl,(fun q=>by cases q),(by unfold Zc1;rw[if_pos HBN.out]),(fun q=>by cases q)⟩,Zah.refl _ _⟩
 |true=>
  by_cases har:0≤ar∧ar≤64
  ·obtain⟨a,rfl⟩:∃a:Nat,ar=(a:Int):=⟨ar.toNat,by omega⟩
   have ha:a≤64:=by omega
   obtain⟨pb,hpb⟩:∃pb,w.heap.size=pb:=⟨_,rfl⟩
   have HPB:=zh hpb
   have NR:=zh (Zeo a ha w)
   rw[hpb] at NR
   clear hpb
   have LK:Hid (∀W,Ext w W→∃mb,W.cell? ⟨bb,0,none⟩=some (.map (some mb))∧(Instr.lookup 93 (.map (some mb)) (.string k) false).run Tryz.prog W=.ok (Zmw (f k)) W):=fun W hW=>(H.out.ext hW).look k
   have P0:Hid (∀W,Zay W (pb+1) pb a []→Ty W pb 100→ZaJ W pb=none→Ext w W→ZbZ W lo bb (ZbK f k (pb,a,[]))∧Zb0 W lo bb (fun k=>(f k).map fun x=>x.1)∧Zd6 bb f (ZbK f k (pb,a,[])) w W):=fun W q1 q2 q3 q4=>⟨(H.out.r.fresh k q4 (Nat.le_of_eq HPB.out) q1 q2 q3 ha).1,H.out.m.ext q4,(H.out.r.fresh k q4 (Nat.le_of_eq HPB.out) q1 q2 q3 ha).2⟩
   have PU:Hid (∀W f m,ZbZ W lo bb f→Zb0 W lo bb m→Calls Tryz.prog 98 #[.pointer (some ⟨bb,0,none⟩),.string k,.pointer (some ⟨pb,0,none⟩)] W fun e w'=>(∃v,e=.returned v)∧ZbZ w' lo bb f∧Zb0 w' lo bb (ZbK m k pb)∧Zah (fun b=>lo≤b) W w'∧Zd6 bb f f W w'∧∀o v,W.cell? ⟨bb,o,none⟩=some v→w'.cell? ⟨bb,o,none⟩=some v):=fun W f m q q2=>ZnL lo bb pb f m k W q q2
   have HA:Hid ((a:Int).toNat=a):=by show _=_;omega
   cases hf:f k with
   |none=>
    rw[hf] at LK
    have HF:=zh hf
    clear h hf har
    go_enter Tryz.func51,Tryz.ntmps51
    go_wp2_with (first
     |(go_at_call 97;(with_reducible refine NM.out.mono ?_);rintro e w0 ⟨rfl,hw0⟩;obtain rfl:=hw0.symm)
     |(go_at_call 24;(with_reducible refine NR.out.mono ?_);rintro e w1 ⟨rfl,v1,t1,i1,e1,z1⟩;obtain⟨r1,m1,b1⟩:=P0.out w1 v1 t1 i1 e1;obtain⟨mb,c1,l1⟩:=LK.out w1 e1;simp only[Zmw,Option.map_none] at l1)
     |(go_at_call 98;(with_reducible refine(PU.out _ _ _ r1 m1).mono ?_);rintro e w4 ⟨⟨v4,rfl⟩,r4,m4,_,b4,s4⟩))
    go_returns
    refine⟨⟨_,rfl,fun _=>⟨pb,by omega,?_,?_⟩,by unfold Zc1 Za2;rw[if_neg (by rw[HBN.out];simp),if_neg (by omega),HF.out];rfl,fun _ v hv=>s4 _ v (Zac e1 hv)⟩,(b1.trans b4).but⟩
    ·unfold ZdN
     rw[HF.out,HA.out]
     exact Zbo.fin r4 m4 (.inl rfl)
    ·unfold ZdN
     rw[HF.out,HA.out]
     exact b1.trans b4
   |some x=>
    obtain⟨p0,a0,rs⟩:=x
    rw[hf] at LK
    have HF:=zh hf
    have c2:=(H.out.r.rel k _ hf).2.1.c2
    simp only at c2
    obtain⟨bq,hbq⟩:∃b,((a0:Int) != (a:Int))=b:=⟨_,rfl⟩
    clear h hf har
    cases bq
    all_goals
     go_enter Tryz.func51,Tryz.ntmps51
     go_wp2_with (first
      |(go_at_call 97;(with_reducible refine NM.out.mono ?_);rintro e w0 ⟨rfl,hw0⟩;obtain rfl:=hw0.symm)
      |(go_at_call 24;(with_reducible refine NR.out.mono ?_);rintro e w1 ⟨rfl,v1,t1,i1,e1,z1⟩;have c3:=Zac e1 c2;obtain⟨mb,c1,l1⟩:=LK.out w1 e1;simp only[Zmw,Option.map_some] at l1))
     go_returns
    ·refine⟨⟨_,rfl,fun _=>⟨pb,by omega,?_,?_⟩,by unfold Zc1 Za2;rw[if_neg (by rw[HBN.out];simp),if_neg (by omega),HF.out];exact(if_pos (by simpa using hbq)).symm,fun _ v hv=>Zac e1 hv⟩,(Zah.refl _ _).ext e1⟩
     ·unfold ZdN
      rw[HF.out]
      exact H.out.ext e1
     ·unfold ZdN
      rw[HF.out]
      exact H.out.r.ext_mv e1
    ·exact⟨⟨_,rfl,(fun q=>by cases q),(by unfold Zc1 Za2;rw[if_neg (by rw[HBN.out];simp),if_neg (by omega),HF.out];exact(if_neg (by simpa using hbq)).symm),(fun q=>by cases q)⟩,(Zah.refl _ _).ext e1⟩
  ·have NR:=zh (Zgi ar (by omega) w)
   obtain⟨mb,h1,hl⟩:=h.look k
   clear h
   go_enter Tryz.func51,Tryz.ntmps51
   go_wp2_with (first
    |(go_at_call 97;(with_reducible refine NM.out.mono ?_);rintro e w1 ⟨rfl,hw1⟩;obtain rfl:=hw1.symm)
    |(go_at_call 24;(with_reducible refine NR.out.mono ?_);rintro e w1 ⟨rfl,hw1⟩;obtain rfl:=hw1.symm))
   go_returns
   exact⟨⟨_,rfl,(fun q=>by cases q),(by unfold Zc1;rw[if_neg (by rw[HBN.out];simp),if_pos (by omega)]),(fun q=>by cases q)⟩,Zah.refl _ _⟩
def ZpY (w:World)(b o:Nat)(r:List ByteArray):Prop:=∃(a:Option Addr) (n c:Nat),w.cell? ⟨b,o,none⟩=some (.slice a n c)∧Zai w a n r∧(a=none→n=0∧c=0)∧n≤8796093022207
theorem ZpY.keep {W w:World}(hb:Ext W w){b o:Nat}{r:List ByteArray}(h:ZpY W b o r):ZpY w b o r:=by
 obtain⟨a,n,c,h1,h2,h3,h4⟩:=h
 exact⟨a,n,c,YtjfbjjmiobgjfaaGreat.Zac hb h1,h2.keep hb,h3,h4⟩
def ZnR (w:World)(b o:Nat)(x:Zb3):Prop:=w.cell? ⟨b,o,none⟩=some (.string x.name)∧w.cell? ⟨b,o+1,none⟩=some (.int .i64 x.ar)∧∃(a:Option Addr) (n c:Nat),w.cell? ⟨b,o+2,none⟩=some (.slice a n c)∧n≤maxLen∧Zce ZpY 1 w a n x.rows
theorem ZnR.keep {W w:World}(hb:Ext W w){b o:Nat}{x:Zb3}(h:ZnR W b o x):ZnR w b o x:=by
 obtain⟨h1,h2,a,n,c,h3,h4,h5⟩:=h
 exact⟨YtjfbjjmiobgjfaaGreat.Zac hb h1,YtjfbjjmiobgjfaaGreat.Zac hb h2,a,n,c,YtjfbjjmiobgjfaaGreat.Zac hb h3,h4,h5.keep fun _ _ _=>ZpY.keep hb⟩
def Zc2 (w:World)(a:Option Addr)(n:Nat)(xs:List Zb3):Prop:=n≤maxLen∧Zce ZnR 3 w a n xs
theorem Zc2.keep {W w:World}(hb:Ext W w){a:Option Addr}{n:Nat}{xs:List Zb3}(h:Zc2 W a n xs):Zc2 w a n xs:=⟨h.1,h.2.keep fun _ _ _=>ZnR.keep hb⟩
def ZgB (xs:List Zb3)(w:World)(e:Ending)(w':World):Prop:=Ext w w'∧((Zcw (fun _=>none) xs).1≠0∧e=.returned (.tuple #[.pointer none,.int .i64 (Zcw (fun _=>none) xs).1])∨(Zcw (fun _=>none) xs).1=0∧∃bb f,e=.returned (.tuple #[.pointer (some ⟨bb,0,none⟩),.int .i64 0])∧Zbo w' w.heap.size bb f∧Za2 f=(Zcw (fun _=>none) xs).2)
theorem Zix (f:ZaT)(k k':ByteArray)(x:Nat×Nat×List (List ByteArray)):ZeH (ZbK f k x) k'=if k'=k then x.2.2 else ZeH f k':=by
 unfold ZeH ZbK
 by_cases h:k'=k
 ·rw[if_pos h,if_pos h]
 ·rw[if_neg h,if_neg h]
theorem Zkw {f:ZaT}{k:ByteArray}{pb:Nat}{ar:Int}(h:Zc1 (Za2 f) k ar=0):∃p rs,ZdN f k pb ar.toNat k=some (p,ar.toNat,rs)∧rs=Zcj (Za2 f) k∧(∀v,ZbK (Za2 (ZdN f k pb ar.toNat)) k v=ZbK (Za2 f) k v)∧∀k',ZeH (ZdN f k pb ar.toNat) k'=ZeH f k':=by
 unfold Zc1 at h
 split at h
 ·cases h
 ·split at h
  ·cases h
  ·cases hf:f k with
   |none=>
    have e:ZdN f k pb ar.toNat=ZbK f k (pb,ar.toNat,[]):=by unfold ZdN;rw[hf]
    rw[e]
    refine⟨pb,[],by simp[ZbK],by unfold Zcj Za2;rw[hf];rfl,fun v=>?_,fun k'=>?_⟩
    ·funext z
     by_cases hz:z=k
     ·simp[ZbK,hz]
     ·simp[ZbK,Za2,hz]
    ·rw[Zix]
     by_cases hz:k'=k
     ·subst hz
      rw[if_pos rfl]
      unfold ZeH
      rw[hf]
     ·rw[if_neg hz]
   |some x=>
    obtain⟨p,a,rs⟩:=x
    have hp:Za2 f k=some (a,rs):=by unfold Za2;rw[hf];rfl
    rw[hp] at h
    simp only at h
    split at h
    ·rename_i ha
     refine⟨p,rs,by unfold ZdN;rw[hf];simp only;rw[hf,←ha];rfl,by unfold Zcj;rw[hp],fun v=>by unfold ZdN;rw[hf],fun k'=>by unfold ZdN;rw[hf]⟩
    ·cases h
theorem Zmx (f:ZaT)(k:ByteArray)(x:Nat×Nat×List (List ByteArray)):Za2 (ZbK f k x)=ZbK (Za2 f) k x.2:=by
 funext z
 unfold Za2 ZbK
 split <;> rfl
theorem Zmy {f:ZaT}{k:ByteArray}{p a:Nat}{rs:List (List ByteArray)}(h:f k=some (p,a,rs)):ZbK (Za2 f) k (a,rs)=Za2 f:=by
 funext z
 unfold ZbK
 split
 ·rename_i e
  subst e
  unfold Za2
  rw[h]
  rfl
 ·rfl
theorem ZnS (rs:List (List ByteArray))(t:List ByteArray):(ZaO rs t).length≤rs.length+1:=by
 unfold ZaO
 split
 ·omega
 ·rw[List.length_append,List.length_cons,List.length_take,List.length_drop]
  omega
theorem Zmz {f:ZaT}{k:ByteArray}{t:List ByteArray}{p a:Nat}{rs:List (List ByteArray)}(h:f k=some (p,a,rs))(hn:ZbA k=true)(ha:a≤64)(hl:rs.length<65536):ZhB f k t=ZcV a t:=by
 rw[Ziw (ar:=a) (rs:=rs) hn ⟨by unfold Zj9;rw[h],by unfold ZeH;rw[h]⟩]
 unfold ZcV
 by_cases h1:t.length≠a
 ·rw[if_pos (.inl h1),if_pos h1]
 ·have h2:¬(t.length≠a∨64<t.length):=by omega
  rw[if_neg h1,if_neg h2]
  by_cases h3:ZaP t=false
  ·rw[if_pos h3,if_pos h3]
  ·have h4:¬(65536≤rs.length∧ZaX rs t=false):=fun q=>by omega
   rw[if_neg h3,if_neg h3,if_neg h4]
theorem Zlw {w x z:World}(h1:Ext w x)(h2:Zah (fun b=>w.heap.size≤b) x z):Ext w z:=Zaw h1 h2 (fun b hb h=>by omega)
theorem ZnT (xs:List Zb3)(a:Option Addr)(n c:Nat)(w:World)(h:Zc2 w a n xs)(hrn:ZaZ xs≤1000):
  Calls Tryz.prog 20 #[.slice a n c] w (ZgB xs w):=by
 have H:=zh h
 have hn:n≤9223372036854775807:=h.1
 have HL:=zh h.2.1
 have NB:=zh (Zjn w)
 have HRN:=zh hrn
 obtain⟨R,hR⟩:∃R,R=Zcw (fun _=>none) xs:=⟨_,rfl⟩
 unfold ZgB
 rw[←hR]
 have FIN:=zh hR
 clear h hR hrn
 go_enter Tryz.func20,Tryz.ntmps20
 go_wp2_with (go_at_call 50;(with_reducible refine NB.out.mono ?_);rintro e w1 ⟨rfl,v1,e1,z1⟩)
 obtain⟨bb,hbb⟩:∃bb,w.heap.size+1=bb:=⟨_,rfl⟩
 rw[hbb] at v1 z1 ⊢
 have V1:=zh v1
 clear hbb v1
 go_loopw [15] (fun v wj=>∃(k:Nat) (f:ZaT) (N:Int),k≤n∧v=.int .i64 (k:Nat)∧Zbo wj w.heap.size bb f∧Ext w wj∧R=Zcw (Za2 f) (xs.drop k)∧wj.cell? ⟨bb,1,none⟩=some (.int .i64 N)∧0≤N∧N+(ZaZ (xs.drop k):Int)≤(ZaZ xs:Int)∧∀k',(ZeH f k').length+ZaZ (xs.drop k)≤ZaZ xs) (fun v _=>n-(intOf v).toNat)
 case atStart=>exact⟨0,_,0,by omega,rfl,V1.out,e1,by rw[FIN.out];rfl,z1,by omega,by simp,fun k'=>by simp[ZeH]⟩
 case round=>
  obtain⟨k,f,N,hk,rfl,hv,hx,hr,hcn,hn0,hnl,hrs⟩:=hrel
  have HV:=zh hv
  have HX:=zh hx
  have HQ:=zh hr
  have CN:=zh hcn
  have N0:=zh hn0
  have NL:=zh hnl
  have RS:=zh hrs
  clear hv hx hr hcn hn0 hnl hrs
  by_cases hlt:k<n
  ·have hki:(k:Int)<(n:Int):=by omega
   obtain⟨x,b0,o0,hx0,rfl,f1,f2,ar,nr,cr,f3,g4,g5⟩:=H.out.2.at hlt
   have g1:=Zac HX.out f1
   have g2:=Zac HX.out f2
   have g3:=Zac HX.out f3
   have HX0:=zh (Zbn hx0)
   have G5:=zh g5
   have G4:=zh g4
   have hnr:nr≤9223372036854775807:=g4
   clear g5 g4 f1 f2 f3 hx0
   have EA:Hid (Ext wr (wr.alloc (.cells #[.string x.name,.int .i64 x.ar,.slice ar nr cr] 57))):=Zab zbr _
   have BV:Hid (Zbo (wr.alloc (.cells #[.string x.name,.int .i64 x.ar,.slice ar nr cr] 57)) w.heap.size bb f):=HV.out.ext EA.out
   have NP:Hid (¬Zb6 (wr.alloc (.cells #[.string x.name,.int .i64 x.ar,.slice ar nr cr] 57)) bb f wr.heap.size):=fun q=>by
    have:=(HV.out.bl (HV.out.r.ext_bl EA.out q)).2
    omega
   have EW:Hid (Ext w (wr.alloc (.cells #[.string x.name,.int .i64 x.ar,.slice ar nr cr] 57))):=Zaa HX.out EA.out
   have SZ:Hid (wr.heap.size<(wr.alloc (.cells #[.string x.name,.int .i64 x.ar,.slice ar nr cr] 57)).heap.size):=by show _<_;simp
   have C0:Hid ((wr.alloc (.cells #[.string x.name,.int .i64 x.ar,.slice ar nr cr] 57)).cell? ⟨wr.heap.size,0,none⟩=some (.string x.name)):=by show _=_;go_simp
   have C2:Hid ((wr.alloc (.cells #[.string x.name,.int .i64 x.ar,.slice ar nr cr] 57)).cell? ⟨wr.heap.size,2,none⟩=some (.slice ar nr cr)):=by show _=_;go_simp
   have DC:=zh (ZnQ _ bb f x.name x.ar _ BV.out)
   obtain⟨p6,hp6⟩:∃p6,wr.heap.size=p6:=⟨_,rfl⟩
   have HP6:=zh hp6
   rw[hp6] at NP C0 C2 SZ
   go_wp2_with (go_at_call 51;(with_reducible refine DC.out.mono ?_);rintro e w2 ⟨⟨q,rfl,hq,hqe,hqn⟩,hb2⟩;have HQE:=zh hqe;have HQN:=zh hqn;clear hqe hqn;have c0:=hb2.cell NP.out C0.out;have c2:=hb2.cell NP.out C2.out)
   clear hp6
   all_goals
    have EW2:Hid (Ext w w2):=Zlw EW.out (hb2.mono fun b _ h=>(BV.out.bl h).1)
   ·rename_i hq0
    have hq1:q≠0:=by first|assumption|(simp_all)
    have hqe:=HQE.out
    have HR:Hid (R=(q,fun _=>none)):=by
     show _=_
     rw[HQ.out,HX0.out,ZfS,if_neg (by rw[←hqe];exact hq1),hqe]
    go_ret2
    refine⟨EW2.out,.inl ⟨?_,?_⟩⟩
    ·rw[HR.out];exact hq1
    ·rw[HR.out];rfl
   ·rename_i hq0
    have hq1:q=0:=by simpa using hq0
    have hqe:=HQE.out
    have hqn:=HQN.out
    obtain⟨pb,_,v2,mv2⟩:=hq hq1
    have D0:Hid (Zc1 (Za2 f) x.name x.ar=0):=by rw[hq1] at hqe;exact hqe.symm
    obtain⟨p9,rs9,y3,y4,y6,y7⟩:=Zkw (pb:=pb) D0.out
    have cn2:Hid (w2.cell? ⟨bb,1,none⟩=some (.int .i64 N)):=hqn hq1 _ (Zac EA.out CN.out)
    have S2:Hid (ZdN f x.name pb x.ar.toNat x.name=some (p9,x.ar.toNat,rs9)∧R=Zdi (Za2 (ZdN f x.name pb x.ar.toNat)) x.name x.ar.toNat rs9 x.rows (xs.drop (k+1))∧N+((x.rows.length+ZaZ (xs.drop (k+1)):Nat):Int)≤(ZaZ xs:Int)∧∀k',(ZeH (ZdN f x.name pb x.ar.toNat) k').length+(x.rows.length+ZaZ (xs.drop (k+1)))≤ZaZ xs):=by
     refine⟨y3,?_,?_,fun k'=>?_⟩
     ·rw[HQ.out,HX0.out,ZfS,if_pos D0.out,←y4]
      unfold Zdi
      rw[y6]
     ·have:=NL.out
      rw[HX0.out,ZfR] at this
      omega
     ·have:=RS.out k'
      rw[HX0.out,ZfR] at this
      rw[y7]
      omega
    have NMD:Hid (ZbA x.name=true):=(ZfT D0.out).1
    have NR:Hid (x.rows.length=nr):=G5.out.1
    have V2:=zh v2
    have NP2:Hid (¬Zb6 w2 bb (ZdN f x.name pb x.ar.toNat) p6):=fun h=>(mv2.own _ h).elim NP.out (fun h=>by have:=SZ.out;omega)
    have P6:Hid (p6<w2.heap.size):=Nat.lt_of_lt_of_le SZ.out hb2.size
    have C02:=zh c0
    clear y3 y4 y6 y7
    generalize ZdN f x.name pb x.ar.toNat=f2 at V2 NP2 S2
    clear v2 mv2 hb2 hq hq0 c0 c2 hqe hqn hq1
    go_loopw [31] (fun v wj=>∃(j:Nat) (f:ZaT) (p:Nat) (rs:List (List ByteArray)) (N:Int),f x.name=some (p,x.ar.toNat,rs)∧R=Zdi (Za2 f) x.name x.ar.toNat rs (x.rows.drop j) (xs.drop (k+1))∧wj.cell? ⟨bb,1,none⟩=some (.int .i64 N)∧0≤N∧N+(((x.rows.drop j).length+ZaZ (xs.drop (k+1)):Nat):Int)≤(ZaZ xs:Int)∧(∀k',(ZeH f k').length+((x.rows.drop j).length+ZaZ (xs.drop (k+1)))≤ZaZ xs)∧j≤nr∧v=.int .i64 (j:Nat)∧Zbo wj w.heap.size bb f∧Ext w wj∧wj.cell? ⟨p6,0,none⟩=some (.string x.name)∧¬Zb6 wj bb f p6∧p6<wj.heap.size) (fun v _=>nr-(intOf v).toNat)
    case atStart=>exact⟨0,f2,p9,rs9,N,S2.out.1,S2.out.2.1,cn2.out,N0.out,S2.out.2.2.1,S2.out.2.2.2,by omega,rfl,V2.out,EW2.out,C02.out,NP2.out,P6.out⟩
    case round=>
     obtain⟨j,g,pg,rg,Nj,t1,t2,t3,t4,t5,t6,hj,rfl,hv,hx,c0,np,hp⟩:=hrel
     have T1:=zh t1
     have T2:=zh t2
     have T3:=zh t3
     have T4:=zh t4
     have T5:=zh t5
     have T6:=zh t6
     clear t1 t2 t3 t4 t5 t6
     have HV:=zh hv
     have HX:=zh hx
     have NQ:=zh np
     have HP:=zh hp
     have HC:=zh c0
     clear hv hx np hp
     by_cases hlj:j<nr
     ·have hji:(j:Int)<(nr:Int):=by omega
      obtain⟨r,b1,o1,hr0,rfl,a1,n1,c1,g4,g5,g6,g7⟩:=(G5.out.keep (fun _ _ _=>ZpY.keep HX.out)).at hlj
      rw[Nat.mul_one] at g4
      have AD:=zh (Zrf _ bb g x.name r a1 n1 c1 wr HV.out g5 g6 g7)
      have HDR:=zh (Zbn hr0)
      have ROOM:Hid (ZhB g x.name r=ZcV x.ar.toNat r):=by
       have h1:=T6.out x.name
       have h2:=HRN.out
       unfold ZeH at h1
       rw[T1.out] at h1
       simp only at h1
       exact Zmz T1.out NMD.out (HV.out.r.rel _ _ T1.out).2.2.2.wide (by omega)
      have NS:Hid (Nj<262144):=by have h1:=T5.out;have h2:=HRN.out;show _<_;omega
      have HST:Hid (R=if ZcV x.ar.toNat r=0 then Zdi (Za2 g) x.name x.ar.toNat (ZaO rg r) (x.rows.drop (j+1)) (xs.drop (k+1)) else (ZcV x.ar.toNat r,fun _=>none)):=by show _=_;rw[T2.out,HDR.out,ZhQ]
      clear g5 g6 g7 hr0
      go_wp2_with (go_at_call 52;(with_reducible refine AD.out.mono ?_);rintro e w3 ⟨⟨bq,qq,rfl,hqq,hcn3⟩,hb3⟩;have HC3:=zh hcn3;clear hcn3)
      all_goals
       have EW3:Hid (Ext w w3):=Zlw HX.out (hb3.mono fun b _ h=>(HV.out.bl h).1)
      ·rename_i hq0
       have hq1:qq≠0:=by first|assumption|(simp_all)
       have he:=(HC3.out _ T3.out T4.out NS.out).1
       rw[ROOM.out] at he
       have HR:Hid (R=(qq,fun _=>none)):=by
        show _=_
        rw[HST.out,if_neg (by rw[←he];exact hq1),he]
       go_ret2
       refine⟨EW3.out,.inl ⟨?_,?_⟩⟩
       ·rw[HR.out];exact hq1
       ·rw[HR.out];rfl
      ·rename_i hq0
       have hq1:qq=0:=by simpa using hq0
       obtain⟨pb,v3,mv3,_⟩:=hqq hq1
       obtain⟨he,hn3⟩:=HC3.out _ T3.out T4.out NS.out
       obtain⟨N3,k3,k4,k5,_⟩:=hn3 hq1
       rw[ROOM.out,hq1] at he
       have AO:Hid (Zj9 g x.name r=x.ar.toNat∧ZeH g x.name=rg):=⟨by unfold Zj9;rw[T1.out],by unfold ZeH;rw[T1.out]⟩
       rw[AO.out.1,AO.out.2] at v3 mv3
       have S3:Hid (ZbK g x.name (pb,x.ar.toNat,ZaO rg r) x.name=some (pb,x.ar.toNat,ZaO rg r)∧R=Zdi (Za2 (ZbK g x.name (pb,x.ar.toNat,ZaO rg r))) x.name x.ar.toNat (ZaO rg r) (x.rows.drop (j+1)) (xs.drop (k+1))∧N3+(((x.rows.drop (j+1)).length+ZaZ (xs.drop (k+1)):Nat):Int)≤(ZaZ xs:Int)∧∀k',(ZeH (ZbK g x.name (pb,x.ar.toNat,ZaO rg r)) k').length+((x.rows.drop (j+1)).length+ZaZ (xs.drop (k+1)))≤ZaZ xs):=by
        have h5:=T5.out
        rw[HDR.out,List.length_cons] at h5
        refine⟨by unfold ZbK;rw[if_pos rfl],?_,by omega,fun k'=>?_⟩
        ·rw[HST.out,if_pos he.symm,Zmx]
         unfold Zdi
         rw[ZgY]
        ·have h6:=T6.out k'
         rw[HDR.out,List.length_cons] at h6
         rw[Zix]
         split
         ·rename_i e1
          subst e1
          rw[AO.out.2] at h6
          have:=ZnS rg r
          simp only
          omega
         ·omega
       clear he hn3
       have V3:=zh v3
       have NP3:Hid (¬Zb6 w3 bb (ZbK g x.name (pb,x.ar.toNat,ZaO rg r)) p6):=fun h=>(mv3.own _ h).elim NQ.out (fun h=>by have:=HP.out;omega)
       have P63:Hid (p6<w3.heap.size):=Nat.lt_of_lt_of_le HP.out hb3.size
       have C03:=zh (hb3.cell NQ.out HC.out)
       clear hqq hq0 v3 mv3 hb3 hq1
       go_roundw
       case rel=>exact⟨j+1,_,_,_,N3,S3.out.1,S3.out.2.1,k3,k4,S3.out.2.2.1,S3.out.2.2.2,by omega,by go_num,V3.out,EW3.out,C03.out,NP3.out,P63.out⟩
       case measure=>simp[intOf];omega
     ·obtain rfl:j=nr:=by omega
      have hge:¬(j:Int)<(j:Int):=by omega
      go_wp2
      go_roundw
      case rel=>
       have TK:Hid (x.rows.drop j=[]):=List.drop_of_length_le (by have:=NR.out;omega)
       refine⟨k+1,g,Nj,by omega,by go_num,HV.out,HX.out,?_,T3.out,T4.out,?_,fun k'=>?_⟩
       ·rw[T2.out,TK.out,Zjr,Zmy T1.out]
       ·have:=T5.out
        rw[TK.out,List.length_nil,Nat.zero_add] at this
        exact this
       ·have:=T6.out k'
        rw[TK.out,List.length_nil,Nat.zero_add] at this
        exact this
      case measure=>simp[intOf];omega
  ·obtain rfl:k=n:=by omega
   have hge:¬(k:Int)<(k:Int):=by omega
   go_wp2
   have TK:Hid (xs.drop k=[]):=List.drop_of_length_le (by have:=HL.out;omega)
   have HR:Hid (R=(0,Za2 f)):=by show _=_;rw[HQ.out,TK.out];rfl
   go_ret2
   refine⟨HX.out,.inr ⟨by rw[HR.out],?_⟩⟩
   exact⟨bb,rfl,f,HV.out,by rw[HR.out]⟩
def ZaV (l:List Za7):Zjq:=fun k=>(Zbe l k).map fun x=>(x.ar,x.rs)
theorem ZmA (l:List Za7)(k:ByteArray)(ar:Int):Zfd l k ar=Zc1 (ZaV l) k ar:=by
 unfold Zfd Zc1 ZaV
 cases Zbe l k <;> rfl
theorem Zlx {l:List Za7}(x:Za7)(hn:∀y∈l,y.name≠x.name)(k:ByteArray):Zbe (Zj8 l x) k=if k=x.name then some x else Zbe l k:=by
 unfold Zbe Zj8
 have e:l=l.take (atD l x.name)++l.drop (atD l x.name):=(List.take_append_drop _ _).symm
 rw[List.find?_append,List.find?_cons]
 conv=>rhs;rw[e,List.find?_append]
 by_cases hk:k=x.name
 ·rw[if_pos hk]
  have:(l.take (atD l x.name)).find? (fun x=>decide (x.name=k))=none:=by
   rw[List.find?_eq_none]
   intro y hy
   have:=hn y (List.mem_of_mem_take hy)
   simp only[decide_eq_true_eq]
   rw[hk]
   exact this
  rw[this]
  simp[hk]
 ·rw[if_neg hk]
  have h2:decide (x.name=k)=false:=by simpa using fun q=>hk q.symm
  rw[h2]
theorem ZnU {l:List Za7}(x:Za7)(hn:∀y∈l,y.name≠x.name):ZaV (Zj8 l x)=ZbK (ZaV l) x.name (x.ar,x.rs):=by
 funext k
 unfold ZaV ZbK
 rw[Zlx x hn]
 split <;> rfl
theorem Zly (l:List Za7)(k:ByteArray)(rs:List (List ByteArray))(k':ByteArray):Zbe (ZhS l k rs) k'=(Zbe l k').map fun x=>if x.name=k then {x with rs:=rs} else x:=by
 unfold Zbe ZhS
 rw[List.find?_map]
 congr 1
 apply congrArg (fun p=>List.find? p l)
 funext y
 simp only[Function.comp]
 split <;> rfl
theorem ZnV {l:List Za7}{k:ByteArray}{x:Za7}(hx:Zbe l k=some x)(rs:List (List ByteArray)):ZaV (ZhS l k rs)=ZbK (ZaV l) k (x.ar,rs):=by
 funext k'
 unfold ZaV ZbK
 rw[Zly]
 by_cases hk:k'=k
 ·subst hk
  rw[if_pos rfl,hx]
  simp[(Zb8 hx).2]
 ·rw[if_neg hk]
  show _=(Zbe l k').map fun x=>(x.ar,x.rs)
  cases hq:Zbe l k' with
  |none=>rfl
  |some y=>
   have:=(Zb8 hq).2
   simp only[Option.map_some]
   rw[if_neg (fun q=>hk (this.symm.trans q))]
theorem ZnW (l:List Za7)(x:Za7):Ze0 (Zj8 l x)=Ze0 l+x.rs.length∧(Zj8 l x).length=l.length+1:=by
 unfold Zj8 Ze0
 constructor
 ·conv=>rhs;rw[←List.take_append_drop (atD l x.name) l]
  simp only[List.map_append,List.map_cons,List.sum_append,List.sum_cons]
  omega
 ·have:=(Zfa x.name l).1
  rw[List.length_append,List.length_cons,List.length_take,List.length_drop]
  omega
theorem Zsc {l:List Za7}{lo bb:Nat}{w:World}(h:ZaU w lo bb l){k:ByteArray}{x:Za7}(hx:Zbe l k=some x)(t:List ByteArray):Ze0 (ZhS l k (ZaO x.rs t))≤Ze0 l+1:=by
 have hu:=h.up
 clear h
 induction l with
 |nil=>simp[Zbe] at hx
 |cons y l ih=>
  have hy:=List.pairwise_cons.1 hu
  unfold ZhS at ih ⊢
  rw[List.map_cons,Ze9,Ze9]
  unfold Zbe at hx
  rw[List.find?_cons] at hx
  by_cases hk:y.name=k
  ·rw[decide_eq_true hk] at hx
   cases hx
   rw[if_pos hk]
   have h2:l.map (fun z=>if z.name=k then {z with rs:=ZaO x.rs t} else z)=l:=by
    conv=>rhs;rw[←List.map_id l]
    apply List.map_congr_left
    intro z hz
    rw[if_neg]
    ·rfl
    ·intro q
     have:=hy.1 z hz
     rw[hk,q] at this
     exact Zbb _ this
   rw[h2]
   have:=Zh3 x.rs t
   simp only
   omega
  ·rw[decide_eq_false hk] at hx
   rw[if_neg hk]
   have:=ih hx hy.2
   omega
theorem Zsd {l:List Za7}{x:Za7}(h:x∈l):x.rs.length≤Ze0 l:=by
 induction l with
 |nil=>cases h
 |cons y l ih=>
  rw[Ze9]
  rcases List.mem_cons.1 h with rfl|h
  ·omega
  ·have:=ih h;omega
theorem ZmB {w:World}{lo bb:Nat}{l l':List Za7}{k:ByteArray}{ar:Nat}(h:ZaU w lo bb l')(hd:Zr9 l k ar l'):∃x,Zbe l' k=some x∧x.ar=ar∧x.rs=Zcj (ZaV l) k∧(∀v,ZbK (ZaV l') k v=ZbK (ZaV l) k v)∧Ze0 l'=Ze0 l∧l'.length≤l.length+1:=by
 rcases hd with⟨x,h1,h2,rfl⟩|⟨h1,x,rfl,h3,h4,rfl⟩
 ·exact⟨x,h1,h2,by unfold Zcj ZaV;rw[h1];rfl,fun _=>rfl,rfl,by omega⟩
 ·have hn:∀y∈l,y.name≠x.name:=Zjp h1
  refine⟨x,by rw[Zlx x hn,if_pos rfl],h3,by unfold Zcj ZaV;rw[h1,h4];rfl,fun v=>by rw[ZnU x hn,ZgY],?_,by rw[(ZnW l x).2];omega⟩
  rw[(ZnW l x).1,h4]
  rfl
theorem ZnX {l:List Za7}{k:ByteArray}{x:Za7}(h:Zbe l k=some x):ZbK (ZaV l) k (x.ar,x.rs)=ZaV l:=by
 funext z
 unfold ZbK
 split
 ·rename_i e
  subst e
  unfold ZaV
  rw[h]
  rfl
 ·rfl
def ZgZ (xs:List Zb3)(w:World)(e:Ending)(w':World):Prop:=Ext w w'∧((Zcw (fun _=>none) xs).1≠0∧e=.returned (.tuple #[.pointer none,.int .i64 (Zcw (fun _=>none) xs).1])∨(Zcw (fun _=>none) xs).1=0∧∃bb l,e=.returned (.tuple #[.pointer (some ⟨bb,0,none⟩),.int .i64 0])∧ZaU w' w.heap.size bb l∧ZaV l=(Zcw (fun _=>none) xs).2∧l.length≤xs.length∧Ze0 l≤ZaZ xs)
theorem ZnY (xs:List Zb3)(a:Option Addr)(n c:Nat)(w:World)(h:Zc2 w a n xs)(hn1:n≤999999)(hrn:ZaZ xs≤1000):
  Calls Tryz.prog 19 #[.slice a n c] w (ZgZ xs w):=by
 have H:=zh h
 have HL:=zh h.2.1
 have NB:=zh (ZnM w)
 have HRN:=zh hrn
 obtain⟨R,hR⟩:∃R,R=Zcw (fun _=>none) xs:=⟨_,rfl⟩
 unfold ZgZ
 rw[←hR]
 have FIN:=zh hR
 clear h hR hrn
 go_enter Tryz.func19,Tryz.ntmps19
 go_wp2_with (go_at_call 47;(with_reducible refine NB.out.mono ?_);rintro e w1 ⟨rfl,v1,e1⟩)
 obtain⟨bb,hbb⟩:∃bb,w.heap.size=bb:=⟨_,rfl⟩
 have HBB:=zh hbb
 rw[hbb] at v1 ⊢
 have V1:=zh v1
 clear hbb v1
 have BX:Hid (∀w1 w2,Ext w w1→∀S:Nat→Prop,Zah S w1 w2→(∀b,S b→w.heap.size≤b)→Ext w w2):=fun w1 w2 e1 S b2 hS=>Zaw e1 b2 (fun b hb hs=>by have:=hS b hs;omega)
 go_loopw [5] (fun v wj=>∃(k:Nat) (l:List Za7),k≤n∧v=.int .i64 (k:Nat)∧ZaU wj bb bb l∧Ext w wj∧R=Zcw (ZaV l) (xs.drop k)∧Ze0 l+ZaZ (xs.drop k)≤ZaZ xs∧l.length≤k) (fun v _=>n-(intOf v).toNat)
 case atStart=>exact⟨0,[],by omega,rfl,V1.out,e1,by rw[FIN.out];rfl,by simp[Ze0],by simp⟩
 case round=>
  obtain⟨k,l,hk,rfl,hv,hx,hr,hle,hll⟩:=hrel
  have HV:=zh hv
  have HX:=zh hx
  have HQ:=zh hr
  have HLE:=zh hle
  have HLL:=zh hll
  clear hv hx hr hle hll
  by_cases hlt:k<n
  ·have hki:(k:Int)<(n:Int):=by omega
   obtain⟨x,b0,o0,hx0,rfl,f1,f2,ar,nr,cr,f3,g4,g5⟩:=H.out.2.at hlt
   have HX0:=zh (Zbn hx0)
   have E1:Hid (∀w1,Ext wr w1→w1.cell? ⟨b0,o0+k*3,none⟩=some (.string x.name)):=fun w1 e=>Zac (Zaa HX.out e) f1
   have E2:Hid (∀w1,Ext wr w1→w1.cell? ⟨b0,o0+k*3+1,none⟩=some (.int .i64 x.ar)):=fun w1 e=>Zac (Zaa HX.out e) f2
   have F3:=zh f3
   have F1:=zh f1
   have G5:=zh g5
   have hnr:nr≤9223372036854775807:=g4
   have DC:Hid (∀w1,Ext wr w1→Calls Tryz.prog 48 #[.pointer (some ⟨bb,0,none⟩),.string x.name,.int .i64 x.ar] w1 fun e w'=>e=.returned (.int .i64 (Zc1 (ZaV l) x.name x.ar))∧(Zc1 (ZaV l) x.name x.ar=0→∃l',ZaU w' bb bb l'∧Zr9 l x.name x.ar.toNat l')∧Zah (fun b=>b=bb) w1 w'):=fun w1 e1=>by
    have:=ZnO bb bb l x.name x.ar w1 (HV.out.ext e1) (by have:=HLL.out;omega)
    rw[ZmA] at this
    exact this
   have HNX:Hid (R=if Zc1 (ZaV l) x.name x.ar=0 then Zdi (ZaV l) x.name x.ar.toNat (Zcj (ZaV l) x.name) x.rows (xs.drop (k+1)) else (Zc1 (ZaV l) x.name x.ar,fun _=>none)):=by
    show _=_
    rw[HQ.out,HX0.out,ZfS]
   obtain⟨D,hD⟩:∃D,Zc1 (ZaV l) x.name x.ar=D:=⟨_,rfl⟩
   have HD:=zh hD
   rw[hD] at DC HNX
   clear g4 g5 f1 f2 f3 hx0 hD
   go_wp2
   refine Zba fun W hW=>?_
   have EW:Hid (Ext wr W):=by show Ext _ _;rw[hW];exact Below.refl _ _
   have k1:=E1.out _ EW.out
   have k2:=E2.out _ EW.out
   have k1':=E1.out _ (Zaf EW.out)
   have k2':=E2.out _ (Zaf EW.out)
   clear hW
   go_still_tail 11,(by kernel_rfl)
   have EWD:=zh (Zaa HX.out (Zaf EW.out))
   obtain⟨q,hq⟩:∃q,(D != 0)=q:=⟨_,rfl⟩
   have HQQ:Hid (D=0↔q=false):=by show _↔_;rw[←hq];simp
   cases q with
   |true=>
    have HR:Hid (R=(D,fun _=>none)∧¬D=0):=by
     have:¬D=0:=fun e=>by have:=HQQ.out.1 e;cases this
     exact⟨by rw[HNX.out,if_neg this],this⟩
    go_wp2_with (go_at_call 48;(with_reducible refine(DC.out _ (Zaf EW.out)).mono ?_);rintro e w2 ⟨rfl,_,b2⟩)
    go_returns
    refine⟨BX.out _ _ EWD.out _ b2 (fun b hb=>by rw[HBB.out,hb];exact Nat.le_refl _),.inl ⟨?_,?_⟩⟩
    ·rw[HR.out.1];exact HR.out.2
    ·rw[HR.out.1];rfl
   |false=>
    have D0:Hid (D=0):=HQQ.out.2 rfl
    have HR:Hid (R=Zdi (ZaV l) x.name x.ar.toNat (Zcj (ZaV l) x.name) x.rows (xs.drop (k+1))):=by show _=_;rw[HNX.out,if_pos D0.out]
    have NMD:Hid (ZbA x.name=true):=(ZfT (HD.out.trans D0.out)).1
    go_wp2_with (go_at_call 48;(with_reducible refine(DC.out _ (Zaf EW.out)).mono ?_);rintro e w2 ⟨rfl,d2,b2⟩)
    obtain⟨l2,v2,dl2⟩:=d2 D0.out
    obtain⟨y2,y3,y4,y5,y6,y7,y8⟩:=ZmB v2 dl2
    have X2:Hid (Ext w w2):=BX.out _ _ EWD.out _ b2 (fun b hb=>by rw[HBB.out,hb];exact Nat.le_refl _)
    have V2:=zh v2
    have S2:Hid (Zbe l2 x.name=some y2∧y2.ar=x.ar.toNat∧R=Zdi (ZaV l2) x.name x.ar.toNat y2.rs x.rows (xs.drop (k+1))∧Ze0 l2+(x.rows.length+ZaZ (xs.drop (k+1)))≤ZaZ xs∧l2.length≤k+1):=by
     refine⟨y3,y4,?_,?_,by have:=HLL.out;omega⟩
     ·rw[HR.out,y5]
      unfold Zdi
      rw[y6]
     ·have:=HLE.out
      rw[HX0.out,ZfR] at this
      omega
    have KE:Hid (∀w1,Ext w w1→w1.cell? ⟨b0,o0+k*3,none⟩=some (.string x.name)∧w1.cell? ⟨b0,o0+k*3+2,none⟩=some (.slice ar nr cr)):=fun w1 e=>⟨Zac e F1.out,Zac e F3.out⟩
    have NR:Hid (x.rows.length=nr):=G5.out.1
    clear v2 dl2 y3 y4 y5 y6 y7 y8 d2 b2 k1 k2 k1' k2' E1 E2 DC hq
    go_loopw [7] (fun v wj=>∃(j:Nat) (l:List Za7) (y:Za7),j≤nr∧v=.int .i64 (j:Nat)∧ZaU wj bb bb l∧Ext w wj∧Zbe l x.name=some y∧y.ar=x.ar.toNat∧R=Zdi (ZaV l) x.name x.ar.toNat y.rs (x.rows.drop j) (xs.drop (k+1))∧Ze0 l+((x.rows.drop j).length+ZaZ (xs.drop (k+1)))≤ZaZ xs∧l.length≤k+1) (fun v _=>nr-(intOf v).toNat)
    case atStart=>exact⟨0,l2,y2,by omega,rfl,V2.out,X2.out,S2.out.1,S2.out.2.1,S2.out.2.2.1,S2.out.2.2.2.1,S2.out.2.2.2.2⟩
    case round=>
     obtain⟨j,lj,y,hj,rfl,hv,hx,g1,g2,g3,g4,g5⟩:=hrel
     have HV:=zh hv
     have HX:=zh hx
     have T1:=zh g1
     have T2:=zh g2
     have T3:=zh g3
     have T4:=zh g4
     have T5:=zh g5
     obtain⟨k1,k2⟩:=KE.out _ hx
     clear hv hx g1 g2 g3 g4 g5
     by_cases hlj:j<nr
     ·have hji:(j:Int)<(nr:Int):=by omega
      obtain⟨r,b1,o1,hr0,rfl,a1,n1,c1,g4,g5,g6,g7⟩:=G5.out.at hlj
      rw[Nat.mul_one] at g4
      have HDR:=zh (Zbn hr0)
      have G4:=zh g4
      have AD:Hid (∀w1,Ext wr w1→Calls Tryz.prog 49 #[.pointer (some ⟨bb,0,none⟩),.string x.name,.slice a1 n1 c1] w1 fun e w'=>(∃b,e=.returned (.tuple #[.bool b,.int .i64 (ZcV x.ar.toNat r)]))∧(ZcV x.ar.toNat r=0→ZaU w' bb bb (ZhS lj x.name (ZaO y.rs r)))∧Zah (fun b=>b=y.pb) w1 w'):=fun w1 e1=>by
       have hy:=Zsd (Zb8 T1.out).1
       have h5:=T4.out
       have h6:=HRN.out
       have:=ZtI bb bb lj x.name y r a1 n1 c1 w1 (HV.out.ext e1) (by have:=T5.out;omega) NMD.out T1.out (by omega) (by omega) (g5.keep (Zaa HX.out e1)) g6
       rw[T2.out] at this
       exact this
      have HYB:Hid (w.heap.size≤y.pb):=by show _≤_;rw[HBB.out];exact(HV.out.rel y (Zb8 T1.out).1).1
      have HST:Hid (R=if ZcV x.ar.toNat r=0 then Zdi (ZaV lj) x.name x.ar.toNat (ZaO y.rs r) (x.rows.drop (j+1)) (xs.drop (k+1)) else (ZcV x.ar.toNat r,fun _=>none)):=by show _=_;rw[T3.out,HDR.out,ZhQ]
      have K2:Hid (∀w1,Ext w w1→w1.cell? ⟨b0,o0+k*3,none⟩=some (.string x.name)∧w1.cell? ⟨b0,o0+k*3+2,none⟩=some (.slice (some ⟨b1,o1,none⟩) nr cr)∧w1.cell? ⟨b1,o1+j,none⟩=some (.slice a1 n1 c1)):=fun w1 e=>⟨(KE.out _ e).1,(KE.out _ e).2,Zac e G4.out⟩
      obtain⟨B,hB⟩:∃B,ZcV x.ar.toNat r=B:=⟨_,rfl⟩
      rw[hB] at AD HST
      clear hr0 g4 g5 g6 g7 hB
      obtain⟨m1,m2,m3⟩:=K2.out _ HX.out
      obtain⟨m1',m2',m3'⟩:=K2.out _ (Zaf HX.out)
      have X3:Hid (∀w2,Zah (fun b=>b=y.pb) wr.drew w2→Ext w w2):=fun w2 b2=>BX.out _ _ (Zaf HX.out) _ b2 (fun b hb=>by rw[hb];exact HYB.out)
      obtain⟨q,hq⟩:∃q,(B != 0)=q:=⟨_,rfl⟩
      have HQQ:Hid (B=0↔q=false):=by show _↔_;rw[←hq];simp
      cases q with
      |true=>
       have HR:Hid (R=(B,fun _=>none)∧¬B=0):=by
        have:¬B=0:=fun e=>by have:=HQQ.out.1 e;cases this
        exact⟨by rw[HST.out,if_neg this],this⟩
       go_wp2
       go_region_held3 (fun w'=>w'.cell? ⟨b0,o0+k*3,none⟩=some (.string x.name)∧w'.cell? ⟨b0,o0+k*3+2,none⟩=some (.slice (some ⟨b1,o1,none⟩) nr cr)∧w'.cell? ⟨b1,o1+j,none⟩=some (.slice a1 n1 c1))
        (with_reducible (first|exact⟨m1,m2,m3⟩|exact⟨m1',m2',m3'⟩|exact⟨s1,s2,s3⟩))
        (first
         |(go_at_call 49;(with_reducible refine(AD.out _ (Zaf zbr)).mono ?_);rintro e w2 ⟨⟨bq,rfl⟩,d2,b2⟩;have X2:=X3.out _ b2;obtain⟨s1,s2,s3⟩:=K2.out _ X2)
         |fail)
       go_wp2
       go_returns
       refine⟨X2,.inl ⟨?_,?_⟩⟩
       ·rw[HR.out.1];exact HR.out.2
       ·rw[HR.out.1];rfl
      |false=>
       have B0:Hid (B=0):=HQQ.out.2 rfl
       go_wp2
       go_region_held3 (fun w'=>w'.cell? ⟨b0,o0+k*3,none⟩=some (.string x.name)∧w'.cell? ⟨b0,o0+k*3+2,none⟩=some (.slice (some ⟨b1,o1,none⟩) nr cr)∧w'.cell? ⟨b1,o1+j,none⟩=some (.slice a1 n1 c1))
        (with_reducible (first|exact⟨m1,m2,m3⟩|exact⟨m1',m2',m3'⟩|exact⟨s1,s2,s3⟩))
        (first
         |(go_at_call 49;(with_reducible refine(AD.out _ (Zaf zbr)).mono ?_);rintro e w2 ⟨⟨bq,rfl⟩,d2,b2⟩;have X2:=X3.out _ b2;obtain⟨s1,s2,s3⟩:=K2.out _ X2)
         |fail)
       go_wp2
       have v2:=d2 B0.out
       go_roundw
       case rel=>
        refine⟨j+1,_,{y with rs:=ZaO y.rs r},by omega,by go_num,v2,X2,?_,T2.out,?_,?_,?_⟩
        ·rw[Zly,T1.out,Option.map_some,if_pos (Zb8 T1.out).2]
        ·rw[HST.out,if_pos B0.out,ZnV T1.out]
         unfold Zdi
         rw[ZgY]
        ·have:=Zsc HV.out T1.out r
         have h7:=T4.out
         rw[HDR.out,List.length_cons] at h7
         omega
        ·unfold ZhS
         rw[List.length_map]
         exact T5.out
       case measure=>simp[intOf];omega
     ·obtain rfl:j=nr:=by omega
      have hge:¬(j:Int)<(j:Int):=by omega
      have TK:Hid (x.rows.drop j=[]):=List.drop_of_length_le (by have:=NR.out;omega)
      go_wp2
      go_roundw
      case rel=>
       refine⟨k+1,lj,by omega,by go_num,HV.out,HX.out,?_,?_,T5.out⟩
       ·rw[T3.out,TK.out,Zjr,←T2.out,ZnX T1.out]
       ·have:=T4.out
        rw[TK.out,List.length_nil] at this
        omega
      case measure=>simp[intOf];omega
  ·obtain rfl:k=n:=by omega
   have hge:¬(k:Int)<(k:Int):=by omega
   have TK:Hid (xs.drop k=[]):=List.drop_of_length_le (by have:=HL.out;omega)
   have HR:Hid (R=(0,ZaV l)):=by show _=_;rw[HQ.out,TK.out];rfl
   go_wp2
   go_returns
   refine⟨HX.out,.inr ⟨by rw[HR.out],?_⟩⟩
   refine⟨bb,rfl,l,?_,by rw[HR.out],by have:=HL.out;have:=HLL.out;omega,by have:=HLE.out;omega⟩
   rw[HBB.out]
   exact HV.out
