/- The walks of the law's much and of Arity. -/
import Derived.Test.YtjfbjjmiobgjfaaGreatG44
set_option maxRecDepth 100000
set_option maxHeartbeats 8000000
namespace Go.Proofs.YtjfbjjmiobgjfaaGreat
open ChangeShapes WideShapes ChangeAt RowKit
open K (ZaG Zda ZaQ Zaq Zbl ZaR Zbw Zcm)
theorem ZrH (r:ZaQ)(ah:Option Addr)(nh ch:Nat)(ab:Option Addr)(nb cb gr cg:Nat)(xs:List Zb3)(a:Option Addr)(n c:Nat)(w:World)(g0:w.cell? ⟨gr,0,none⟩=some (.string r.head.pred))(g1:w.cell? ⟨gr,1,none⟩=some (.slice ah nh ch))(g2:w.cell? ⟨gr,2,none⟩=some (.slice ab nb cb))(hr:ZaR w r ah nh ch ab nb cb)(h:Zc2 w a n xs)(hrn:ZaZ xs≤2000000)(hv:(Zad r).length≤1000000):
  Calls Tryz.prog 4 #[.agg #[.slice (some ⟨gr,0,none⟩) 1 cg],.slice a n c] w fun e w'=>∃b,e=.returned (.bool b)∧Ext w w'∧(b=false→ZaZ xs≤400∧nb≤6∧Zdk r xs):=by
 obtain⟨p0,hp0⟩:∃p0,w.heap.size=p0:=⟨_,rfl⟩
 obtain⟨W,hW⟩:∃W,W=w.alloc (.cells #[.slice (some ⟨gr,0,none⟩) 1 cg] 33):=⟨_,rfl⟩
 have EW:Hid (Ext w W):=by show Ext _ _;rw[hW];exact Zab zbr _
 have x0:W.cell? ⟨p0,0,none⟩=some (.slice (some ⟨gr,0,none⟩) 1 cg):=by rw[hW,←hp0];go_simp
 have X0:=zh x0
 have FR:Hid (∀W',Ext w W'→ZaZ xs≤400→nb≤6→Calls Tryz.prog 18 #[.agg #[.slice (some ⟨gr,0,none⟩) 1 cg],.slice a n c] W' fun e w'=>∃b,e=.returned (.bool b)∧Ext W' w'∧(b=true→Zdk r xs)):=fun W' e h1 h2=>Zus r ah nh ch ab nb cb gr cg xs a n c W' (Zac e g0) (Zac e g1) (Zac e g2) (hr.keep e) h2 (h.keep e) h1 hv
 have G:Hid (∀W,Ext w W→W.cell? ⟨gr,2,none⟩=some (.slice ab nb cb)):=fun W e=>Zac e g2
 have HX:=zh h
 have hnn:n≤9223372036854775807:=h.1
 have hnb:nb≤1353245080303:=hr.body.1
 have HRN:=zh hrn
 have HW:=zh hW
 have HP0:=zh hp0
 clear hr h hrn g0 g1 g2 x0 hv hW hp0
 go_enter Tryz.func4,Tryz.ntmps4
 go_upto_region 1 with (fail)
 rw[←HW.out,HP0.out]
 clear HW HP0
 go_wp2
 go_loopw [5,6] (fun u i wj=>∃k:Nat,k≤n∧u=.int .i64 ((ZaZ (xs.take k):Nat):Int)∧i=.int .i64 (k:Int)∧Ext W wj) (fun _ i _=>n-(intOf i).toNat)
 case atStart=>exact⟨0,by omega,rfl,rfl,Below.refl _ _⟩
 case round=>
  obtain⟨k,hk,rfl,rfl,he⟩:=hrel
  have EE:=zh (Zaa EW.out he)
  have EE1:=zh he
  have x1:=Zac he X0.out
  clear he
  by_cases hlt:k<n
  ·obtain⟨x,b,o,hx,rfl,_,_,ar,nr,cr,f3,g4,g5⟩:=HX.out.2.at hlt
   have hki:(k:Int)<(n:Int):=by omega
   have k3:=Zac EE.out f3
   have HS:Hid (ZaZ (xs.take (k+1))=ZaZ (xs.take k)+nr):=by
    show _=_
    rw[Zl2 hx,g5.1]
   have hs2:ZaZ (xs.take k)+nr≤2000000:=by
    have:=HS.out
    have:=Zh5 xs (k+1)
    have:=HRN.out
    omega
   obtain⟨z,hz⟩:∃z,ZaZ (xs.take k)=z:=⟨_,rfl⟩
   rw[hz] at hs2 HS ⊢
   clear hz hx f3 g4 g5
   go_wp2
   go_roundw
   case rel=>exact⟨k+1,by omega,by rw[HS.out];go_num,by go_num,EE1.out⟩
   case measure=>simp[intOf];omega
  ·obtain rfl:k=n:=by omega
   have hge:¬(k:Int)<(k:Int):=by omega
   have HT:Hid (xs.take k=xs):=List.take_of_length_le (by rw[HX.out.2.1];exact Nat.le_refl _)
   rw[HT.out]
   obtain⟨z,hz⟩:∃z,ZaZ xs=z:=⟨_,rfl⟩
   have HZ:=zh hz
   rw[hz] at FR HRN ⊢
   have y2:=G.out _ EE.out
   have hz2:z≤2000000:=HRN.out
   clear hz
   have XX:Hid (∀W',Ext wr W'→W'.cell? ⟨p0,0,none⟩=some (.slice (some ⟨gr,0,none⟩) 1 cg)∧W'.cell? ⟨gr,2,none⟩=some (.slice ab nb cb)∧Ext w W'):=fun W' e=>⟨Zac e x1,Zac e y2,Zaa EE.out e⟩
   by_cases h1:400<z
   ·have h1':(400:Int)<(z:Int):=by omega
    go_wp2
    go_loopw [7,8] (fun u i wj=>∃k:Nat,k≤1∧u=.bool true∧i=.int .i64 (k:Int)∧Ext wr wj) (fun _ i _=>1-(intOf i).toNat)
    case atStart=>exact⟨0,by omega,rfl,rfl,Below.refl _ _⟩
    case round=>
     obtain⟨k,hk,rfl,rfl,he⟩:=hrel
     obtain⟨x2,y3,e3⟩:=XX.out _ he
     have E3:=zh e3
     have HE:=zh he
     clear he e3
     by_cases hlt:k<1
     ·obtain rfl:k=0:=by omega
      go_wp2
      go_roundw
      case rel=>exact⟨1,by omega,rfl,by rfl,HE.out⟩
      case measure=>simp[intOf]
     ·obtain rfl:k=1:=by omega
      go_wp2
      go_returns
      exact⟨true,rfl,E3.out,fun h=>by cases h⟩
   ·have h1':¬(400:Int)<(z:Int):=by omega
    have hz4:Hid (z≤400):=zh (by omega)
    by_cases h6:6<nb
    ·have h6':(6:Int)<(nb:Int):=by omega
     go_wp2
     go_loopw [7,8] (fun u i wj=>∃k:Nat,(k=0∧u=.bool false∨k=1∧u=.bool true)∧i=.int .i64 (k:Int)∧Ext wr wj) (fun _ i _=>1-(intOf i).toNat)
     case atStart=>exact⟨0,.inl ⟨rfl,rfl⟩,rfl,Below.refl _ _⟩
     case round=>
      obtain⟨k,hk,rfl,he⟩:=hrel
      obtain⟨x2,y3,e3⟩:=XX.out _ he
      have E3:=zh e3
      have HE:=zh he
      clear he e3
      rcases hk with⟨rfl,rfl⟩|⟨rfl,rfl⟩
      ·go_wp2
       go_roundw
       case rel=>exact⟨1,.inr ⟨rfl,rfl⟩,by rfl,HE.out⟩
       case measure=>simp[intOf]
      ·go_wp2
       go_returns
       exact⟨true,rfl,E3.out,fun h=>by cases h⟩
    ·have h6':¬(6:Int)<(nb:Int):=by omega
     have hnb6:Hid (nb≤6):=zh (by omega)
     go_wp2
     go_loopw [7,8] (fun u i wj=>∃k:Nat,k≤1∧u=.bool false∧i=.int .i64 (k:Int)∧Ext wr wj) (fun _ i _=>1-(intOf i).toNat)
     case atStart=>exact⟨0,by omega,rfl,rfl,Below.refl _ _⟩
     case round=>
      obtain⟨k,hk,rfl,rfl,he⟩:=hrel
      obtain⟨x2,y3,e3⟩:=XX.out _ he
      have E3:=zh e3
      have HE:=zh he
      clear he e3
      by_cases hlt:k<1
      ·obtain rfl:k=0:=by omega
       go_wp2
       go_roundw
       case rel=>exact⟨1,by omega,by rw[decide_eq_false (show ¬(6:Int)<(nb:Int) by omega)],by rfl,HE.out⟩
       case measure=>simp[intOf]
      ·obtain rfl:k=1:=by omega
       have FF:=zh (FR.out _ E3.out hz4.out hnb6.out)
       go_wp2_with (go_at_call 18;(with_reducible refine FF.out.mono ?_);rintro e w9 ⟨b,rfl,e9,hb⟩)
       go_returns
       exact⟨!b,by first|rfl|simp,Zaa E3.out e9,fun h=>⟨by rw[HZ.out];exact hz4.out,hnb6.out,hb (by simpa using h)⟩⟩
