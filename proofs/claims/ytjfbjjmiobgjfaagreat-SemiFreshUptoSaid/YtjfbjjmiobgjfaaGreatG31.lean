/- slices.Index and slices.Contains at terms. -/
import Derived.Test.YtjfbjjmiobgjfaaGreatG2
set_option maxRecDepth 100000
set_option maxHeartbeats 8000000
namespace Go.Proofs.YtjfbjjmiobgjfaaGreat
open ChangeShapes WideShapes ChangeAt RowKit
open K (ZaG Zda ZaQ Zaq Zbl ZaR Zbw Zcm)
def Zg5 (xs:List ZaG)(t:ZaG):Int:=match xs.findIdx? (fun y=>decide (t=y)) with
 |some k=>(k:Nat)
 |none=> -1
theorem Zof {xs:List ZaG}{t:ZaG}{k:Nat}(h1:xs[k]? =some t)(h2:∀j y,j<k→xs[j]? =some y→t≠y):Zg5 xs t=(k:Int):=by
 have:xs.findIdx? (fun y=>decide (t=y))=some k:=by
  rw[List.findIdx?_eq_some_iff_getElem]
  obtain⟨hk,e⟩:=zgs h1
  refine⟨hk,by simp[e],fun j hj=>?_⟩
  have:=h2 j xs[j] hj (zge (by omega))
  simp[this]
 unfold Zg5
 rw[this]
theorem Zog {xs:List ZaG}{t:ZaG}(h:∀(j:Nat) (y:ZaG),xs[j]? =some y→t≠y):Zg5 xs t=-1:=by
 have:xs.findIdx? (fun y=>decide (t=y))=none:=by
  rw[List.findIdx?_eq_none_iff]
  intro x hx
  obtain⟨j,hj⟩:=List.mem_iff_getElem?.1 hx
  simp[h j x hj]
 unfold Zg5
 rw[this]
theorem ZlI {α:Type}[DecidableEq α]{xs:List α}{t:α}(h:t∈xs):∃k:Nat,xs[k]? =some t∧∀j y,j<k→xs[j]? =some y→t≠y:=by
 induction xs with
 |nil=>cases h
 |cons x xs ih=>
  by_cases hx:t=x
  ·exact⟨0,by rw[hx];rfl,fun j y hj=>absurd hj (by omega)⟩
  ·obtain⟨k,h1,h2⟩:=ih ((List.mem_cons.1 h).resolve_left hx)
   refine⟨k+1,by simpa using h1,fun j y hj hy=>?_⟩
   cases j with
   |zero=>
    simp at hy
    rw[←hy]
    exact hx
   |succ j=>exact h2 j y (by omega) (by simpa using hy)
theorem ZgE {xs:List ZaG}{t:ZaG}(h:t∈xs):∃k:Nat,Zg5 xs t=(k:Int)∧xs[k]? =some t:=by
 obtain⟨k,h1,h2⟩:=ZlI h
 exact⟨k,Zof h1 h2,h1⟩
theorem ZgF {xs:List ByteArray}{t:ByteArray}(h:t∈xs):∃k:Nat,Zgu xs t=(k:Int)∧xs[k]? =some t:=by
 obtain⟨k,h1,h2⟩:=ZlI h
 exact⟨k,Zkv h1 h2,h1⟩
theorem ZkE (xs:List ZaG)(t:ZaG):0≤Zg5 xs t↔t∈xs:=by
 constructor
 ·intro h
  by_cases hm:t∈xs
  ·exact hm
  ·rw[Zog fun j y hj e=>hm (by subst e;exact zmg hj)] at h
   omega
 ·intro h
  obtain⟨k,e,_⟩:=ZgE h
  omega
theorem ZiI (xs:List ZaG)(t:ZaG)(a:Option Addr)(n cap:Nat)(w:World)(h:Zaq w a n xs):
  Calls Tryz.prog 130 #[.slice a n cap,Zd8 t] w fun e w'=>e=.returned (.int .i64 (Zg5 xs t))∧Ext w w':=by
 have H:=zh h
 have HL:=zh h.2.1
 have hn:=h.1
 have eqt:=K.ZpB
 clear h
 go_enter Tryz.func130,Tryz.ntmps130
 go_wp2
 refine Zba (fun W hW=>?_)
 obtain⟨pb,hpb⟩:∃pb,pb=w.heap.size:=⟨_,rfl⟩
 have EW:Hid (Ext w W):=by show Ext _ _;rw[hW];exact Zab zbr _
 have C0:Hid (W.cell? ⟨pb,0,none⟩=some (.int .i64 t.kind)):=by show _=_;rw[hW,hpb];go_simp
 have C1:Hid (W.cell? ⟨pb,1,none⟩=some (.string t.text)):=by show _=_;rw[hW,hpb];go_simp
 rw[←hpb]
 clear hW hpb
 go_loopw [8] (fun iv wr=>Ext W wr∧∃k:Nat,iv=.int .i64 (k:Nat)∧k≤n∧∀j y,j<k→xs[j]? =some y→t≠y) (fun iv _=>n-(intOf iv).toNat)
 case atStart=>exact⟨Below.refl _ _,0,rfl,Nat.zero_le _,fun j y h=>absurd h (by omega)⟩
 case round=>
  obtain⟨hE,k,rfl,hkn,hall⟩:=hrel
  have HE:=zh hE
  have HA:=zh hall
  have HEW:Hid (Ext w wr):=Zaa EW.out hE
  clear hall hE
  by_cases hk:k<n
  ·have hki:(k:Int)<(n:Int):=by omega
   obtain⟨y,b,off,h1,rfl,h2,h3,h4⟩:=(H.out.keep HEW.out).2.at hk
   have HX:=zh h1
   have c0:=Zac HE.out C0.out
   have c1:=Zac HE.out C1.out
   clear h1
   obtain⟨q,hq⟩:∃q,K.Ze1 t.kind t.text y.kind y.text=q:=⟨_,rfl⟩
   have HQ:Hid (decide (t=y)=q):=by show _=_;rw[←hq,K.Zmi]
   cases q with
   |true=>
    go_wp2_with fail
    go_quiet (fail)
    all_goals
     go_wp2
     go_ret
     refine⟨ZcN (b:=Zg5 xs t) ?_,Zaa HEW.out (Zae zbr _)⟩
     have e:t=y:=of_decide_eq_true HQ.out
     rw[Zof (by rw[e];exact HX.out) HA.out]
   |false=>
    go_wp2_with fail
    go_quiet (fail)
    all_goals
     go_wp2
     go_roundw
     case rel=>
      refine⟨Zaa HE.out (Zae zbr _),k+1,by simp,by omega,fun j z hj hz=>?_⟩
      rcases Nat.lt_or_ge j k with h|h
      ·exact HA.out j z h hz
      ·obtain rfl:j=k:=by omega
       rw[HX.out] at hz
       cases hz
       exact of_decide_eq_false HQ.out
     case measure=>simp[intOf];omega
  ·obtain rfl:k=n:=by omega
   have hge:¬(k:Int)<(k:Int):=by omega
   go_wp2
   go_ret
   exact⟨ZcN (b:=Zg5 xs t) (by rw[Zog fun j y hj=>HA.out j y (by rw[←HL.out];exact(zgs hj).1) hj]),HEW.out⟩
theorem Zqa (xs:List ZaG)(t:ZaG)(a:Option Addr)(n cap:Nat)(w:World)(h:Zaq w a n xs):
  Calls Tryz.prog 129 #[.slice a n cap,Zd8 t] w fun e w'=>e=.returned (.bool (decide (t∈xs)))∧Ext w w':=by
 have H:=zh h
 clear h
 have IX:Hid (∀W,Ext w W→Calls Tryz.prog 130 #[.slice a n cap,Zd8 t] W fun e w'=>e=.returned (.int .i64 (Zg5 xs t))∧Ext W w'):=fun W hW=>ZiI xs t a n cap W (H.out.keep hW)
 go_enter Tryz.func129,Tryz.ntmps129
 go_wp2_with (go_at_call 130;(with_reducible refine(IX.out _ (Zab zbr _)).mono ?_);rintro e w1 ⟨rfl,hb⟩)
 go_ret
 exact⟨ZaS (by simp only[decide_eq_decide];exact ZkE xs t),Zaa (Zab zbr _) hb⟩
