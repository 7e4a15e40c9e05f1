/- tuple.Base's Relations. -/
import Derived.Test.YtjfbjjmiobgjfaaGreatG22
import Derived.Test.YtjfbjjmiobgjfaaGreatG40
set_option maxRecDepth 100000
set_option maxHeartbeats 8000000
namespace Go.Proofs.YtjfbjjmiobgjfaaGreat
open ChangeShapes WideShapes ChangeAt RowKit
def Zne (f:ZaT)(k:ByteArray):Zb3:=match f k with
 |some x=>⟨k,(x.2.1:Int),x.2.2⟩
 |none=>⟨k,0,[]⟩
theorem ZoX {f:ZaT}{L:List ByteArray}{k:Nat}{x:ByteArray}(h:L[k]? =some x):(L.take (k+1)).map (Zne f)=(L.take k).map (Zne f)++[Zne f x]:=by
 rw[ZaA h,List.map_append]
 rfl
theorem ZdY.low {w w1 w':World}{xs:List Zb3}{v:Value}(h:ZdY w1 w' xs v)(e:Ext w w1):ZdY w w' xs v:=by
 obtain⟨⟨us,h1,h2⟩,h3⟩:=h
 refine⟨⟨us,Zao h1 e.size,fun i x hx=>?_⟩,Zaa e h3⟩
 obtain⟨q1,q2,vr,q3,vs,q4,q5⟩:=h2 i x hx
 exact⟨q1,q2,vr,q3,vs,Zao q4 e.size,q5.1,fun i r v a b=>Zao (q5.2 i r v a b) e.size⟩
theorem ZkP (lo bb:Nat)(f:ZaT)(L:List ByteArray)(w:World)(h:Zbo w lo bb f)(hL:∀k,f k≠none↔k∈L)(hsz:∀k∈L,k.size≤4096)(hn:L.length≤1000000)(hup:L.Pairwise (fun x y=>ltB x y=true)):
  Calls Tryz.prog 11 #[.pointer (some ⟨bb,0,none⟩)] w fun e w'=>∃v,e=.returned v∧ZdY w w' (L.map (Zne f)) v:=by
 have H:=zh h
 have HL:=zh hL
 have NM:=zh (ZoS lo bb f L w h hL hsz hn hup)
 clear h hL hsz hup
 go_enter Tryz.func11,Tryz.ntmps11
 go_wp2_with (go_at_call 40;(with_reducible refine NM.out.mono ?_);rintro e w1 ⟨v1,rfl,o1,e1⟩;obtain⟨an,cn,rfl,_⟩:=Zag o1)
 have O1:=zh o1
 have E1:=zh e1
 clear o1 e1
 go_loopw [3,10] (fun v i wj=>∃k:Nat,k≤L.length∧i=.int .i64 (k:Int)∧ZdY w1 wj ((L.take k).map (Zne f)) v) (fun _ i _=>L.length-(intOf i).toNat)
 case atStart=>exact⟨0,by omega,rfl,ZdY.nil w1⟩
 case round=>
  obtain⟨k,hk,rfl,⟨⟨us,own,hus⟩,hE1⟩⟩:=hrel
  have EV:=zh hE1
  have EW:=zh (Zaa E1.out hE1)
  have HU:=zh hus
  have HLT:Hid (((L.take k).map (Zne f)).length=k):=by show _=_;rw[List.length_map,List.length_take];omega
  obtain⟨as1,cs,rfl,_⟩:=Zag own
  rw[HLT.out] at own ⊢
  have OW:=zh own
  clear hE1 hus own
  by_cases hlt:k<L.length
  ·have hki:(k:Int)<(L.length:Int):=by omega
   obtain⟨nm,hnm⟩:∃nm,L[k]? =some nm:=⟨_,zge hlt⟩
   obtain⟨g,rfl,hg⟩:=Zd7 O1.out (k:=k) (v:=.string nm) (by rw[List.getElem?_map,hnm];rfl)
   have HX:=zh hnm
   obtain⟨x,hx⟩:=Option.ne_none_iff_exists'.1 ((HL.out nm).2 (zmg hnm))
   obtain⟨pb,ar,rs⟩:=x
   obtain⟨_,dr,_,ok⟩:=H.out.r.rel nm _ hx
   have HRA:Hid (Zne f nm=⟨nm,(ar:Int),rs⟩):=by show _=_;unfold Zne;rw[hx]
   have LKW:Hid (∀W,Ext w W→∃mb,W.cell? ⟨bb,0,none⟩=some (.map (some mb))∧(Instr.lookup 93 (.map (some mb)) (.string nm) false).run Tryz.prog W=.ok (.pointer (some ⟨pb,0,none⟩)) W):=fun W hW=>by
    obtain⟨mb,q1,q2⟩:=(H.out.ext hW).look nm
    rw[hx] at q2
    exact⟨mb,q1,q2⟩
   have AL:Hid (∀w1,Ext w w1→Calls Tryz.prog 13 #[.pointer (some ⟨pb,0,none⟩)] w1 (ZiR rs w1)):=fun w1 e1=>Zrm (some (pb,ar,rs)) rs w1 ⟨dr.ext e1,rfl⟩ (by have:=ok.few;simp only at this;omega) (fun r hr=>by have:=(ok.row r hr).1;have:=ok.wide;simp only at *;omega)
   have C1:Hid (∀w1,Ext w w1→w1.cell? ⟨pb,1+1,none⟩=w1.cell? ⟨pb,2,none⟩∧w1.cell? ⟨pb,2,none⟩=some (.int .i64 (ar:Int))):=fun w1 e=>⟨rfl,Zac e dr.c2⟩
   have c2:=(C1.out _ EW.out).2
   have c2':=(C1.out _ (Zaf EW.out)).2
   have gk:=Zac EV.out hg
   obtain⟨mb,lk1,lk2⟩:=LKW.out _ EW.out
   clear hnm hx dr ok hg
   go_wp2
   go_region_held3 (fun w'=>w'.cell? ⟨pb,2,none⟩=some (.int .i64 (ar:Int)))
    (with_reducible (first|go_keep|exact c2|exact c2'|exact(C1.out _ e5).2|exact(C1.out _ (Zab e5 _)).2|exact(C1.out _ e6).2))
    (first
     |((refine Zfe w2 nm (ar:Int) a9 rs.length c9 w1.heap.size _ k us (Zar OW.out e4) (by omega) (Zaa EV.out e4).size (by rfl) _ _ (by rfl) (by rfl) (by rfl) ?_);intro v3 w3 own3 g3;have e6:Ext w w3:=Zaz (Zab e5 _) g3 (fun g e=>Nat.le_trans E1.out.size (OW.out.lt g e).1))
     |(go_at_call 13;(with_reducible refine(AL.out _ (Zaf EW.out)).mono ?_);rintro e w2 ⟨a9,c9,us2,rfl,o2,r2,e2⟩;have e4:=Zaa (Zaf (Below.refl _ wr)) e2;have e5:=Zaa (Zaf EW.out) e2)
     |fail)
   go_wp2
   go_roundw
   case rel=>
    refine⟨k+1,by omega,by go_num,?_⟩
    rw[ZoX HX.out,HRA.out]
    exact ZdY.push (y:=⟨nm,(ar:Int),rs⟩) EV.out (by rw[HLT.out];exact OW.out) HU.out e4 ⟨us2,o2,r2⟩ (by rw[HLT.out];exact own3) g3
   case measure=>simp[intOf];omega
  ·obtain rfl:k=L.length:=by omega
   have hge:¬(L.length:Int)<(L.length:Int):=by omega
   go_wp2
   go_returns
   have e0:ZdY w1 wr (L.map (Zne f)) (.slice as1 L.length cs):=by
    have h1:=OW.out
    have h2:=HU.out
    rw[List.take_length] at h2
    exact⟨⟨us,by rw[List.length_map];exact h1,h2⟩,EV.out⟩
   exact⟨_,rfl,e0.low E1.out⟩
