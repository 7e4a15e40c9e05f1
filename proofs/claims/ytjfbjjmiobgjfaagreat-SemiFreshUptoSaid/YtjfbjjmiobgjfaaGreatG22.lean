/- The document's Relations (layer 3). -/
import Derived.Test.YtjfbjjmiobgjfaaGreatG15
import Derived.Test.YtjfbjjmiobgjfaaGreatG21
set_option maxRecDepth 100000
set_option maxHeartbeats 8000000
namespace Go.Proofs.YtjfbjjmiobgjfaaGreat
open ChangeShapes WideShapes ChangeAt RowKit
theorem Zlz:(Tryz.prog.info? 57).map (fun i=>(i.zero,i.size,i.bytes))=some (some (.agg #[.string ⟨#[]⟩,.int .i64 0,.slice none 0 0]),3,48):=by kernel_rfl
def Zdo (lo:Nat)(w:World)(rs:List (List ByteArray))(v:Value):Prop:=∃us,w.ownsRow lo 54 1 v rs.length us∧Zax lo w us rs
theorem Zdo.ext {lo:Nat}{w w':World}{rs:List (List ByteArray)}{v:Value}(h:Zdo lo w rs v)(e:Ext w w'):Zdo lo w' rs v:=by
 obtain⟨us,h1,h2⟩:=h
 exact⟨us,Zar h1 e,h2.1,fun i r v a b=>Zar (h2.2 i r v a b) e⟩
structure ZdY (w w':World)(xs:List Zb3)(v:Value):Prop where
 row:∃us:List Value,w'.ownsRow w.heap.size 57 3 v xs.length us∧∀i x,xs[i]? =some x→us[i*3]? =some (.string x.name)∧us[i*3+1]? =some (.int .i64 x.ar)∧∃vr,us[i*3+2]? =some vr∧Zdo w.heap.size w' x.rows vr
 ext:Ext w w'
theorem ZdY.nil (w:World):ZdY w w [] (.slice none 0 0):=⟨⟨[],World.ownsRow_nil _ _ _ _,fun i x h=>by simp at h⟩,Below.refl _ _⟩
theorem Zjt {lo:Nat}{w w':World}{rs:List (List ByteArray)}{v vb:Value}{lo2 n:Nat}{us:List Value}(h:Zdo lo w rs v)(k:w.ownsRow lo2 57 3 vb n us)(g:w.grownBy w' vb.ownBlock):Zdo lo w' rs v:=by
 obtain⟨vs,h1,h2⟩:=h
 exact⟨vs,h1.kept g (ZaK h1 k (by decide)),h2.1,fun i r v a b=>(h2.2 i r v a b).kept g (ZaK (h2.2 i r v a b) k (by decide))⟩
theorem ZnZ (w2:World)(a b c:Value)(t:TypeId):∀ad,some (⟨w2.heap.size,0,none⟩:Addr)=some ad→∀j u,[a,b,c][j]? =some u→(w2.alloc (.cells #[a,b,c] t)).cell? (ad.add j)=some u:=fun ad e j u hu=>by
 cases e
 match j,hu with
 |0,hu=>cases hu;rw[Addr.add_lit,World.cell?_alloc_new];rfl
 |1,hu=>cases hu;rw[Addr.add_lit,World.cell?_alloc_new];rfl
 |2,hu=>cases hu;rw[Addr.add_lit,World.cell?_alloc_new];rfl
 |j+3,hu=>simp at hu
theorem ZdY.push {w x w2 w3:World}{xs:List Zb3}{y:Zb3}{v v' vr:Value}{o:Obj}{us:List Value}(hE:Ext w x)(h1:x.ownsRow w.heap.size 57 3 v xs.length us)(h2:∀i x',xs[i]? =some x'→us[i*3]? =some (.string x'.name)∧us[i*3+1]? =some (.int .i64 x'.ar)∧∃vr,us[i*3+2]? =some vr∧Zdo w.heap.size x x'.rows vr)(e2:Ext x w2)(hr:Zdo x.heap.size w2 y.rows vr)
  (h3:w3.ownsRow w.heap.size 57 3 v' (xs.length+1) (us++[.string y.name,.int .i64 y.ar,vr])) (g3:(w2.alloc o).grownBy w3 v.ownBlock):ZdY w w3 (xs++[y]) v':=by
 have e0:Ext x (w2.alloc o):=Zab e2 o
 have h1':=Zar h1 e0
 have hl:=h1.1
 refine⟨⟨us++[.string y.name,.int .i64 y.ar,vr],by rw[List.length_append];exact h3,fun i z hz=>?_⟩,Zaz (Zaa hE e0) g3 (fun g e=>(h1.lt g e).1)⟩
 by_cases hi:i<xs.length
 ·rw[List.getElem?_append_left hi] at hz
  obtain⟨q1,q2,vq,q3,q4⟩:=h2 i z hz
  rw[List.getElem?_append_left (by omega),List.getElem?_append_left (by omega),List.getElem?_append_left (by omega)]
  exact⟨q1,q2,vq,q3,Zjt (q4.ext e0) h1' g3⟩
 ·have hi2:=(zgs hz).1
  rw[List.length_append,List.length_singleton] at hi2
  obtain rfl:i=xs.length:=by omega
  rw[List.getElem?_append_right (Nat.le_refl _),Nat.sub_self] at hz
  cases hz
  rw[List.getElem?_append_right (by omega),List.getElem?_append_right (by omega),List.getElem?_append_right (by omega),hl]
  rw[show xs.length*3-xs.length*3=0 by omega,show xs.length*3+1-xs.length*3=1 by omega,show xs.length*3+2-xs.length*3=2 by omega]
  refine⟨rfl,rfl,vr,rfl,Zjt ?_ h1' g3⟩
  obtain⟨vs,a1,a2⟩:=hr.ext (Zab (Below.refl _ w2) o)
  exact⟨vs,Zao a1 hE.size,a2.1,fun i r v a b=>Zao (a2.2 i r v a b) hE.size⟩
theorem Zfe {ops:Array Oper}{o:Oper}{a:Act}{K:Act→World→Prop}{Q:Exit→Act→World→Prop}{E:Prop}(W0:World)(s1:ByteArray)(i1:Int)(a3:Option Addr)(n3 c3:Nat)(base:Nat)(v:Value)(n:Nat)(us:List Value)(hown:W0.ownsRow base 57 3 v n us)(hn:n≤1000000)(hbase:base≤W0.heap.size)(hgd:o.guard=none)(s x:Operand)
  (ho:o.op=.call {callee:=.builtin .append,args:=#[s,x],argTypes:=#[28,28]}) (hs:a.eval s=v) (hx:a.eval x=.slice (some ⟨W0.heap.size,0,none⟩) 1 1)
  (h:∀v' w',w'.ownsRow base 57 3 v' (n+1) (us++[.string s1,.int .i64 i1,.slice a3 n3 c3])→(W0.alloc (.cells #[.string s1,.int .i64 i1,.slice a3 n3 c3] 57)).grownBy w' v.ownBlock→K (a.put o.dst v') w'):
  if Region.wanted o (yielded ops a.tmps)=true then Oper.wp Tryz.prog o a (W0.alloc (.cells #[.string s1,.int .i64 i1,.slice a3 n3 c3] 57)) K Q else E:=by
 obtain⟨n0,hn0,nz0,nz1,nz2⟩:=info_parts Zlz
 exact step_append_lies _ hgd s x 28 ho base 57 n0 (.agg #[.string ⟨#[]⟩,.int .i64 0,.slice none 0 0]) 3 48 Tryz.underlying28 hn0 nz0 nz1 nz2 rfl (by decide) _ n us hs (hown.alloc _) ⟨W0.heap.size,0,none⟩ 1 1 [.string s1,.int .i64 i1,.slice a3 n3 c3] hx rfl (fun j u hu=>ZnZ W0 _ _ _ _ _ rfl j u hu) (by intro u hu;rcases List.mem_cons.1 hu with rfl|hu;exact rfl;rcases List.mem_cons.1 hu with rfl|hu;exact rfl;cases List.mem_singleton.1 hu;rfl) (by omega) (by unfold maxLen;omega) (by omega) (by simp;omega) _ rfl fun g cap w1 hown1 hgrow hat _=>h _ w1 hown1 hgrow
def ZeA (l:List Za7):List Zb3:=l.map fun x=>⟨x.name,(x.ar:Int),x.rs⟩
theorem ZmC {l:List Za7}{k:Nat}{x:Za7}(h:l[k]? =some x):ZeA (l.take (k+1))=ZeA (l.take k)++[⟨x.name,(x.ar:Int),x.rs⟩]:=by
 unfold ZeA
 rw[ZaA h,List.map_append]
 rfl
theorem Zkx (lo bb:Nat)(l:List Za7)(w:World)(h:ZaU w lo bb l)(hl:l.length≤1000000):
  Calls Tryz.prog 12 #[.pointer (some ⟨bb,0,none⟩)] w fun e w'=>∃v,e=.returned v∧ZdY w w' (ZeA l) v:=by
 obtain⟨i0,hinf,hz0,hz1,hz2⟩:=info_parts Zlz
 obtain⟨an,cn,_,n1,n2⟩:=h.names
 obtain⟨aa,ca,_,m1,m2⟩:=h.all
 have H:=zh h
 have N1:=zh n1
 have N2:=zh n2
 have M1:=zh m1
 have M2:=zh m2
 have hnil:=ZcU bb
 obtain⟨n,hn⟩:∃n,l.length=n:=⟨_,rfl⟩
 have HN:=zh hn
 rw[hn] at N1 N2 M1 M2 hl
 clear h n1 n2 m1 m2 hn
 go_enter Tryz.func12,Tryz.ntmps12
 go_wp2
 go_loopw [3,4] (fun v i wj=>∃k:Nat,k≤n∧i=.int .i64 (k:Int)∧ZdY w wj (ZeA (l.take k)) v) (fun _ i _=>n-(intOf i).toNat)
 case atStart=>exact⟨0,by omega,rfl,ZdY.nil w⟩
 case round=>
  obtain⟨k,hk,rfl,⟨us,own,hus⟩,hE⟩:=hrel
  have EW:=zh hE
  have HU:=zh hus
  have HLT:Hid ((ZeA (l.take k)).length=k):=by show _=_;unfold ZeA;rw[List.length_map,List.length_take,HN.out];omega
  obtain⟨as1,cs,rfl,_⟩:=Zag own
  rw[HLT.out] at own ⊢
  have OW:=zh own
  have N3:Hid (∀w1,Ext w w1→w1.cell? ⟨bb,0,none⟩=some (.slice an n cn)):=fun w1 e=>Zac e N1.out
  have M3:Hid (∀w1,Ext w w1→w1.cell? ⟨bb,1,none⟩=some (.slice aa n ca)):=fun w1 e=>Zac e M1.out
  clear hE hus own
  by_cases hlt:k<n
  ·have hki:(k:Int)<(n:Int):=by omega
   obtain⟨x,hx⟩:∃x,l[k]? =some x:=⟨_,zge (by have:=HN.out;omega)⟩
   obtain⟨b1,rfl,h1⟩:=Zd7 N2.out (k:=k) (v:=.string x.name) (by rw[List.getElem?_map,hx];rfl)
   obtain⟨b2,rfl,h2⟩:=Zd7 M2.out (k:=k) (v:=.pointer (some ⟨x.pb,0,none⟩)) (by rw[List.getElem?_map,hx];rfl)
   have HX:=zh hx
   obtain⟨_,dr,_,ok⟩:=H.out.rel x (zmg hx)
   have c0:=dr.c0
   have DR:=zh dr
   have OK:=zh ok
   have AL:Hid (∀w1,Ext w w1→Calls Tryz.prog 14 #[.pointer (some ⟨x.pb,0,none⟩)] w1 fun e w'=>∃v,e=.returned v∧Zci w1 w' x.rs v):=fun w1 e1=>Zny (x.pb+1) x.pb x.ar x.rs w1 (DR.out.ext e1) (by have:=OK.out.few;omega) (fun r hr=>by have:=(OK.out.row r hr).1;have:=OK.out.wide;omega)
   have KK:Hid (∀w1,Ext w w1→w1.cell? ⟨bb,0,none⟩=some (.slice (some ⟨b1,0,none⟩) n cn)∧w1.cell? ⟨bb,1,none⟩=some (.slice (some ⟨b2,0,none⟩) n ca)∧w1.cell? ⟨b1,k,none⟩=some (.string x.name)∧w1.cell? ⟨b2,k,none⟩=some (.pointer (some ⟨x.pb,0,none⟩))∧w1.cell? ⟨x.pb,0,none⟩=some (.int .i64 (x.ar:Int))):=fun w1 e=>⟨N3.out _ e,M3.out _ e,Zac e h1,Zac e h2,Zac e c0⟩
   have B1:Hid (k+1≤maxLen):=by show _≤_;unfold maxLen;omega
   have B2:Hid ((k+1)*48≤140737488355328):=by show _≤_;omega
   obtain⟨k1,k2,k3,k4,k5⟩:=KK.out _ EW.out
   clear hx h1 h2 c0 dr ok
   obtain⟨j1',j2',j3',j4',j5'⟩:=KK.out _ (Zaf EW.out)
   go_wp2
   go_region_held3 (fun w'=>w'.cell? ⟨bb,0,none⟩=some (.slice (some ⟨b1,0,none⟩) n cn)∧w'.cell? ⟨bb,1,none⟩=some (.slice (some ⟨b2,0,none⟩) n ca)∧w'.cell? ⟨b1,k,none⟩=some (.string x.name)∧w'.cell? ⟨b2,k,none⟩=some (.pointer (some ⟨x.pb,0,none⟩))∧w'.cell? ⟨x.pb,0,none⟩=some (.int .i64 (x.ar:Int)))
    (with_reducible (first|go_keep|exact⟨k1,k2,k3,k4,k5⟩|exact⟨j1',j2',j3',j4',j5'⟩|exact KK.out _ e5|exact KK.out _ (Zab e5 _)|exact KK.out _ e6))
    (first
     |((refine Zfe w2 x.name (x.ar:Int) a9 x.rs.length c9 w.heap.size _ k us (Zar OW.out e4) (by omega) e5.size (by rfl) _ _ (by rfl) (by rfl) (by rfl) ?_);intro v3 w3 own3 g3;have e6:Ext w w3:=Zaz (Zab e5 _) g3 (fun g e=>(OW.out.lt g e).1))
     |(go_at_call 14;(with_reducible refine(AL.out _ (Zaf EW.out)).mono ?_);rintro e w2 ⟨vr,rfl,us2,o2,r2,e2⟩;obtain⟨a9,c9,rfl,_⟩:=Zag o2;have e4:=Zaa (Zaf (Below.refl _ wr)) e2;have e5:=Zaa (Zaf EW.out) e2)
     |fail)
   go_wp2
   go_roundw
   case rel=>
    refine⟨k+1,by omega,by go_num,?_⟩
    rw[ZmC HX.out]
    exact ZdY.push (y:=⟨x.name,(x.ar:Int),x.rs⟩) EW.out (by rw[HLT.out];exact OW.out) HU.out e4 ⟨us2,o2,r2⟩ (by rw[HLT.out];exact own3) g3
   case measure=>simp[intOf];omega
  ·obtain rfl:k=n:=by omega
   have hge:¬(k:Int)<(k:Int):=by omega
   have k1:=N3.out _ EW.out
   go_wp2
   go_returns
   have tk:l.take k=l:=List.take_of_length_le (by have:=HN.out;omega)
   refine⟨_,rfl,⟨us,?_,?_⟩,EW.out⟩
   ·rw[←tk,HLT.out];exact OW.out
   ·rw[←tk];exact HU.out
open K (ZaG Zda ZaQ Zaq Zbl ZaR Zbw Zcm)
theorem Zn0 (w:World):Calls Tryz.prog 14 #[.pointer none] w fun e w'=>∃v,e=.returned v∧Zci w w' [] v:=by
 have hnil:=ZgV
 go_enter Tryz.func14,Tryz.ntmps14
 go_wp2
 go_returns
 exact⟨_,rfl,Zci.nil w⟩
def ZaW (l:List Za7)(k:ByteArray):List (List ByteArray):=match Zbe l k with
 |some x=>x.rs
 |none=>[]
theorem ZeN {w:World}{lo bb:Nat}{l:List Za7}(h:ZaU w lo bb l)(k:ByteArray):(ZaW l k).length≤65536∧∀r∈ZaW l k,r.length≤64:=by
 unfold ZaW
 cases hx:Zbe l k with
 |none=>simp
 |some x=>
  have ok:=(h.rel x (Zb8 hx).1).2.2.2
  exact⟨ok.few,fun r hr=>by have:=(ok.row r hr).1;have:=ok.wide;omega⟩
theorem ZlA {lo bb:Nat}{l:List Za7}{w:World}(h:ZaU w lo bb l)(s:ByteArray)(w1:World)(e1:Ext w w1):Calls Tryz.prog 14 #[Zrd (Zbe l s)] w1 fun e w'=>∃v,e=.returned v∧Zci w1 w' (ZaW l s) v:=by
 unfold ZaW
 cases hx:Zbe l s with
 |none=>exact Zn0 w1
 |some x=>
  obtain⟨_,dr,_,ok⟩:=h.rel x (Zb8 hx).1
  exact Zny (x.pb+1) x.pb x.ar x.rs w1 (dr.ext e1) (by have:=ok.few;omega) (fun r hr=>by have:=(ok.row r hr).1;have:=ok.wide;omega)
def Zdj (l:List Za7)(a:Zda):List (List ByteArray):=(ZaW l a.pred).filter fun r=>r.length==a.terms.length
abbrev ZdZ (a:Zda)(at_:Option Addr)(nt ct:Nat):Value:=.agg #[.string a.pred,.slice at_ nt ct]
theorem Zn1 (lo bb:Nat)(l:List Za7)(a:Zda)(at_:Option Addr)(nt ct:Nat)(w:World)(h:ZaU w lo bb l)(hl:l.length≤1000000)(hnt:a.terms.length=nt):
  Calls Tryz.prog 167 #[ZdZ a at_ nt ct,.pointer (some ⟨bb,0,none⟩)] w fun e w'=>∃v,e=.returned v∧Zci w w' (Zdj l a) v:=by
 have H:=zh h
 have HL:=zh hl
 have HNT:=zh hnt
 obtain⟨i0,hinf,hz0,hz1,hz2⟩:=info_parts Zcu
 have hnil:=ZcU bb
 obtain⟨w1,hw1⟩:∃w1,w1=w.alloc (.cells #[.string a.pred,.slice at_ nt ct] 24):=⟨_,rfl⟩
 have E1:Hid (Ext w w1):=by show Ext _ _;rw[hw1];exact Zab zbr _
 have C1:Hid (w1.cell? ⟨w.heap.size,1,none⟩=some (.slice at_ nt ct)):=by show _=_;rw[hw1];go_simp
 have C0:w1.cell? ⟨w.heap.size,0,none⟩=some (.string a.pred):=by rw[hw1];go_simp
 have RO:=zh (ZfO lo bb l a.pred w1 (h.ext E1.out) hl)
 have AL:Hid (∀w2,Ext w1 w2→Calls Tryz.prog 14 #[Zrd (Zbe l a.pred)] w2 fun e w'=>∃v,e=.returned v∧Zci w2 w' (ZaW l a.pred) v):=fun w2 e2=>ZlA h a.pred w2 (Zaa E1.out e2)
 have FW:=zh (ZeN h a.pred)
 obtain⟨rs,hrs⟩:∃rs,ZaW l a.pred=rs:=⟨_,rfl⟩
 have HRD:Hid (Zdj l a=rs.filter fun r=>r.length==nt):=by show _=_;unfold Zdj;rw[hrs,hnt]
 rw[hrs] at AL FW
 generalize Zrd (Zbe l a.pred)=dp at RO AL
 obtain⟨p1,hp1⟩:∃p,w.heap.size=p:=⟨_,rfl⟩
 rw[hp1] at C1 C0
 clear h hl hnt hrs
 go_enter Tryz.func167,Tryz.ntmps167
 go_wp2_with (first|fail)
 rw[←hw1]
 clear hw1
 go_wp2_with (first|(go_at_call 80;(with_reducible refine RO.out.mono ?_);rintro e w2 ⟨rfl,e2⟩)|(go_at_call 14;(with_reducible refine(AL.out _ e2).mono ?_);rintro e w3 ⟨va,rfl,ua,oa,ra,e3⟩;obtain⟨aa,ca,rfl,_⟩:=Zag oa))
 obtain⟨n,hn⟩:∃n,rs.length=n:=⟨_,rfl⟩
 rw[hn] at oa ⊢
 have HN:=zh hn
 have hn6:n≤65536:=by have:=FW.out.1;omega
 have E13:Hid (Ext w1 w3):=Zaa e2 e3
 have EW3:Hid (Ext w w3):=Zaa E1.out (Zaa e2 e3)
 have OA:Hid (w3.ownsRow w.heap.size 54 1 (.slice aa n ca) n ua):=Zao oa (Zaa E1.out e2).size
 have RA:Hid (Zax w.heap.size w3 ua rs):=⟨ra.1,fun i r v q1 q2=>Zao (ra.2 i r v q1 q2) (Zaa E1.out e2).size⟩
 clear hp1 hn e2 e3 oa ra RO AL C0
 go_loopw [6,7] (fun v u wj=>∃(k:Nat) (us:List Value),k≤n∧u=.int .i64 k∧wj.ownsRow w3.heap.size 54 1 v ((rs.take k).filter fun r=>r.length==nt).length us∧Zax w.heap.size wj us ((rs.take k).filter fun r=>r.length==nt)∧Ext w3 wj) (fun _ u _=>n-(intOf u).toNat)
 case atStart=>exact⟨0,[],by omega,rfl,World.ownsRow_nil _ _ _ _,⟨rfl,fun i r v h=>by cases h⟩,Below.refl _ _⟩
 case round=>
  obtain⟨k,us,hk,rfl,own,rat,hE⟩:=hrel
  have HE:=zh hE
  have EW:Hid (Ext w wr):=Zaa EW3.out hE
  have OW:=zh own
  have RW:=zh rat
  have KC:Hid (∀W,Ext w3 W→W.cell? ⟨p1,1,none⟩=some (.slice at_ nt ct)):=fun W hW=>Zac (Zaa E13.out hW) C1.out
  obtain⟨as1,cs,rfl,_⟩:=Zag own
  clear own rat
  by_cases hlt:k<n
  ·have hki:(k:Int)<(n:Int):=by omega
   obtain⟨x,hx⟩:∃x,rs[k]? =some x:=⟨_,zge (by have:=HN.out;omega)⟩
   obtain⟨u,hu⟩:∃u,ua[k]? =some u:=⟨_,zge (by have:=RA.out.1;have:=HN.out;omega)⟩
   have hxu:=RA.out.2 k x u hx hu
   obtain⟨ax,cx,rfl,_⟩:=Zag hxu
   obtain⟨b1,rfl,g1⟩:=Zd7 OA.out hu
   have XU:=zh hxu
   have HXL:Hid (x.length≤64):=FW.out.2 x (zmg hx)
   have G1:Hid (∀W,Ext w3 W→W.cell? ⟨b1,k,none⟩=some (.slice ax x.length cx)):=fun W hW=>Zac hW g1
   have HTK:Hid ((rs.take (k+1)).filter (fun r=>r.length==nt)=(rs.take k).filter (fun r=>r.length==nt)++if x.length==nt then [x] else []):=by
    show _=_
    rw[ZaA hx,List.filter_append,List.filter_cons]
    rfl
   obtain⟨m,hm⟩:∃m,x.length=m:=⟨_,rfl⟩
   have HM:=zh hm
   obtain⟨q,hq⟩:∃q,((m:Int)==(nt:Int))=q:=⟨_,rfl⟩
   have HQ:Hid ((x.length==nt)=q):=by
    show _=_
    rw[hm,←hq,Bool.eq_iff_iff]
    simp
    omega
   have h1:=KC.out _ hE
   have h2:=G1.out _ hE
   have h3:=KC.out _ (Zaf hE)
   have h4:=G1.out _ (Zaf hE)
   have h5:=fun q=>G1.out _ (Zae hE q)
   rw[hm] at h2 h4
   simp only[hm] at h5
   obtain⟨F,hF⟩:∃F,(rs.take k).filter (fun r=>r.length==nt)=F:=⟨_,rfl⟩
   have HFL:Hid (F.length≤k):=by
    show _≤_
    rw[←hF]
    have:=List.length_filter_le (fun r=>r.length==nt) (rs.take k)
    rw[List.length_take] at this
    omega
   rw[hF] at OW RW HTK ⊢
   clear hx hu hxu g1 hm hE hF
   cases q with
   |true=>
    go_wp2
    go_quiet (fail)
    have B1:Hid (F.length+1≤maxLen):=by have:=HFL.out;show _≤_;unfold maxLen;omega
    have B2:Hid ((F.length+1)*24≤140737488355328):=by have:=HFL.out;show _≤_;omega
    go_wp2_with (at_builtin;(refine ZaD rfl _ _ 50 rfl w3.heap.size 54 i0 (.slice none 0 0) 24 Tryz.underlying50 hinf hz0 hz1 hz2 rfl _ _ _ rfl (Zar OW.out (Zab (Zae (Below.refl _ wr) _) _)) _ 1 _ rfl (Zhx.box _ _ _ rfl) rfl B1.out B2.out (Nat.le_trans HE.out.size (by simp)) ?_);intro v3 w3' own3 g3)
    go_roundw
    case rel=>
     have e1:Ext wr (wr.drewN nq):=Zae (Below.refl _ wr) _
     have ux:=Zar XU.out (Zaa HE.out e1)
     have hz:=EW3.out.size
     rw[HM.out] at ux
     have k3:∀{b m:Nat} {z:Value} {xs:List Value},wr.ownsRow b 9 1 z m xs→w3'.ownsRow b 9 1 z m xs:=fun hh=>Zls (Zar hh e1) (Zar OW.out e1) g3 (by decide)
     refine⟨k+1,us++[.slice ax m cx],by omega,by go_num,?_,?_,Zaz (Zab (Zaa HE.out e1) _) g3 (fun g e=>(OW.out.lt g e).1)⟩
     ·rw[HTK.out,HQ.out,if_pos rfl,List.length_append]
      exact own3
     ·rw[HTK.out,HQ.out,if_pos rfl]
      refine Zax.append ⟨RW.out.1,fun i r v a b=>k3 (RW.out.2 i r v a b)⟩ (Zax.sing ?_)
      rw[HM.out]
      have h0:=Zar XU.out HE.out
      rw[HM.out] at h0
      exact k3 h0
    case measure=>simp[intOf];omega
   |false=>
    go_wp2
    go_quiet (fail)
    go_wp2
    go_roundw
    case rel=>
     have e1:Ext wr (wr.drewN nq):=Zae (Below.refl _ wr) _
     refine⟨k+1,us,by omega,by go_num,?_,?_,Zaa HE.out e1⟩
     ·rw[HTK.out,HQ.out,if_neg (by simp),List.append_nil]
      exact Zar OW.out e1
     ·rw[HTK.out,HQ.out,if_neg (by simp),List.append_nil]
      exact⟨RW.out.1,fun i r v q1 q2=>Zar (RW.out.2 i r v q1 q2) e1⟩
    case measure=>simp[intOf];omega
  ·obtain rfl:k=n:=by omega
   have hge:¬(k:Int)<(k:Int):=by omega
   have tk:rs.take k=rs:=List.take_of_length_le (by have:=HN.out;omega)
   rw[tk] at OW RW ⊢
   go_wp2
   go_returns
   refine⟨_,rfl,us,?_,?_,EW.out⟩
   ·rw[HRD.out];exact Zao OW.out EW3.out.size
   ·rw[HRD.out];exact RW.out
def ZbM:List ByteArray→List ByteArray→ByteArray→Option ByteArray
 |n::ns,v::vs,x=>if n=x then some v else ZbM ns vs x
 |_,_,_=>none
theorem ZgC:∀{ns vs:List ByteArray} {x v:ByteArray} {k:Nat},x∉ns.take k→ns[k]? =some x→vs[k]? =some v→ZbM ns vs x=some v
 |[],_,_,_,_,_,h,_=>by simp at h
 |n::ns,[],_,_,k,_,_,h=>by simp at h
 |n::ns,v::vs,x,y,0,_,h1,h2=>by
  simp at h1 h2
  subst h1 h2
  simp[ZbM]
 |n::ns,v::vs,x,y,k+1,h0,h1,h2=>by
  have hne:¬n=x:=fun e=>h0 (by simp[e])
  rw[ZbM,if_neg hne]
  exact ZgC (k:=k) (fun q=>h0 (by simp[q])) (by simpa using h1) (by simpa using h2)
theorem ZlB:∀{ns vs:List ByteArray} {x:ByteArray},x∉ns→ZbM ns vs x=none
 |[],_,_,_=>by simp[ZbM]
 |n::ns,[],_,_=>by simp[ZbM]
 |n::ns,v::vs,x,h=>by
  rw[ZbM,if_neg (fun e=>h (by simp[e]))]
  exact ZlB (fun q=>h (by simp[q]))
abbrev ZeB (an:Option Addr)(n cn:Nat)(av:Option Addr)(cv:Nat):Value:=.agg #[.slice an n cn,.slice av n cv]
def ZlC (o:Option ByteArray)(w:World)(e:Ending)(w':World):Prop:=e=.returned (.tuple #[.string (o.getD ⟨#[]⟩),.bool o.isSome])∧Ext w w'
theorem d_of (ns vs:List ByteArray)(x:ByteArray)(an:Option Addr)(n cn:Nat)(av:Option Addr)(cv:Nat)(w:World)(h1:Zai w an n ns)(h2:Zai w av n vs):Calls Tryz.prog 119 #[ZeB an n cn av cv,.string x] w (ZlC (ZbM ns vs x) w):=by
 obtain⟨w1,hw1⟩:∃w1,w1=w.alloc (.cells #[.slice an n cn,.slice av n cv] 138):=⟨_,rfl⟩
 have E1:Hid (Ext w w1):=by show Ext _ _;rw[hw1];exact Zab zbr _
 have c0:w1.cell? ⟨w.heap.size,0,none⟩=some (.slice an n cn):=by rw[hw1];go_simp
 have c1:w1.cell? ⟨w.heap.size,1,none⟩=some (.slice av n cv):=by rw[hw1];go_simp
 have H1:=zh (h1.keep E1.out)
 have H2:=zh (h2.keep E1.out)
 have HL:=zh h1.2.1
 have HL2:=zh h2.2.1
 have hn:n≤9223372036854775807:=h1.1
 clear h1 h2
 go_enter Tryz.func119,Tryz.ntmps119
 go_wp2
 rw[←hw1]
 clear hw1
 go_loopw [6] (fun u wj=>∃k:Nat,k≤n∧u=.int .i64 k∧x∉ns.take k∧wj=w1) (fun u _=>n-(intOf u).toNat)
 case atStart=>exact⟨0,Nat.zero_le _,rfl,by simp,rfl⟩
 case round=>
  obtain⟨k,hk,rfl,hq,hw⟩:=hrel
  obtain rfl:=hw.symm
  have HQ:=zh hq
  clear hq
  by_cases hlt:k<n
  ·have hki:(k:Int)<(n:Int):=by omega
   obtain⟨y,b,o,hx,rfl,hc⟩:=H1.out.2.at hlt
   obtain⟨z,b2,o2,hx2,rfl,hc2⟩:=H2.out.2.at hlt
   have HX:=zh hx
   have HX2:=zh hx2
   rw[Nat.mul_one] at hc hc2
   have hc3:w1.cell? ⟨b,o+k,none⟩=some (.string y):=hc
   have hc4:w1.cell? ⟨b2,o2+k,none⟩=some (.string z):=hc2
   obtain⟨q,hqq⟩:∃q,(y==x)=q:=⟨_,rfl⟩
   have hq2:(y.toList==x.toList)=q:=by rw[Zbr,←hqq];rw[Bool.eq_iff_iff];simp
   have HQQ:Hid ((y=x)↔q=true):=by show _↔_;rw[←hqq];simp
   clear hx hc hx2 hc2
   cases q with
   |true=>
    have HE:Hid (ZbM ns vs x=some z):=by
     have e:=HQQ.out.2 (by simp)
     have h3:=HX.out
     rw[e] at h3
     exact ZgC HQ.out h3 HX2.out
    go_wp2
    go_returns
    unfold ZlC
    rw[HE.out]
    exact⟨rfl,E1.out⟩
   |false=>
    go_wp2
    go_roundw
    case rel=>
     refine⟨k+1,by omega,by go_num,?_,trivial⟩
     rw[ZaA HX.out,List.mem_append]
     rintro (h|h)
     ·exact HQ.out h
     ·rw[List.mem_singleton] at h
      have:=HQQ.out.1 h.symm
      cases this
    case measure=>simp[intOf];omega
  ·obtain rfl:k=n:=by omega
   have hge:¬(k:Int)<(k:Int):=by omega
   have tk:ns.take k=ns:=List.take_of_length_le (by have:=HL.out;omega)
   have HE:Hid (ZbM ns vs x=none):=ZlB (by rw[←tk];exact HQ.out)
   go_wp2
   go_returns
   unfold ZlC
   rw[HE.out]
   exact⟨rfl,E1.out⟩
def ZcI (ns vs:List ByteArray)(t:ZaG):ByteArray:=if t.kind=3 then t.text else (ZbM ns vs t.text).getD ⟨#[]⟩
theorem Zky (ns vs:List ByteArray)(t:ZaG)(an:Option Addr)(n cn:Nat)(av:Option Addr)(cv:Nat)(w:World)(h1:Zai w an n ns)(h2:Zai w av n vs):Calls Tryz.prog 83 #[ZeB an n cn av cv,.agg #[.int .i64 t.kind,.string t.text]] w fun e w'=>e=.returned (.string (ZcI ns vs t))∧Ext w w':=by
 have EA:Hid (Ext w ((w.alloc (.cells #[.slice an n cn,.slice av n cv] 138)).alloc (.cells #[.int .i64 t.kind,.string t.text] 64))):=Zab (Zab zbr _) _
 have OF:=zh (d_of ns vs t.text an n cn av cv _ (h1.keep EA.out) (h2.keep EA.out))
 obtain⟨b3,e3⟩:∃b,(t.kind==3)=b:=⟨_,rfl⟩
 have K3:Hid ((t.kind=3)↔b3=true):=by show _↔_;rw[←e3];simp
 clear h1 h2
 cases b3 with
 |true=>
  go_enter Tryz.func83,Tryz.ntmps83
  go_wp2
  go_returns
  refine⟨?_,EA.out⟩
  unfold ZcI
  rw[if_pos (K3.out.2 (by simp))]
  rfl
 |false=>
  go_enter Tryz.func83,Tryz.ntmps83
  go_wp2_with (go_at_call 119;(with_reducible refine OF.out.mono ?_);rintro e w2 ⟨rfl,e2⟩)
  go_returns
  refine⟨?_,Zaa EA.out e2⟩
  unfold ZcI
  rw[if_neg (fun h=>absurd (K3.out.1 h) (by simp))]
  rfl
def Zbh:List ZaG→List ByteArray→List ByteArray→List ByteArray→Option (List ByteArray×List ByteArray)
 |t::ts,y::ys,ns,vs=>
  if t.kind=3∧t.text≠y then none
  else if t.kind≠1 then Zbh ts ys ns vs
  else match ZbM ns vs t.text with
   |some s=>if s=y then Zbh ts ys ns vs else none
   |none=>Zbh ts ys (ns++[t.text]) (vs++[y])
 |_,_,ns,vs=>some (ns,vs)
def Za1 (w:World)(p:Nat)(t:TypeId)(a b:Value):Prop:=w.heap[p]? =some (.cells #[a,b] t (0,0))
theorem Za1.c0 {w:World}{p:Nat}{t:TypeId}{a b:Value}(h:Za1 w p t a b):w.cell? ⟨p,0,none⟩=some a:=by unfold Za1 at h;simp[World.cell?,h]
theorem Za1.c1 {w:World}{p:Nat}{t:TypeId}{a b:Value}(h:Za1 w p t a b):w.cell? ⟨p,1,none⟩=some b:=by unfold Za1 at h;simp[World.cell?,h]
theorem Za1.f0 {w:World}{p:Nat}{t:TypeId}{a b:Value}(h:Za1 w p t a b):w.frozen? ⟨p,0,none⟩=false:=by unfold Za1 at h;simp[World.frozen?,h]
theorem Za1.f1 {w:World}{p:Nat}{t:TypeId}{a b:Value}(h:Za1 w p t a b):w.frozen? ⟨p,1,none⟩=false:=by unfold Za1 at h;simp[World.frozen?,h]
theorem Za1.ty {w:World}{p:Nat}{t:TypeId}{a b:Value}(h:Za1 w p t a b):Ty w p t:=⟨_,_,h⟩
theorem Za1.set0 {w:World}{p:Nat}{t:TypeId}{a b:Value}(h:Za1 w p t a b)(v:Value):Za1 (w.setCell ⟨p,0,none⟩ v) p t v b:=by
 unfold Za1 at h ⊢
 simp[World.setCell,Array.getElem?_modify,h]
theorem Za1.set1 {w:World}{p:Nat}{t:TypeId}{a b:Value}(h:Za1 w p t a b)(v:Value):Za1 (w.setCell ⟨p,1,none⟩ v) p t a v:=by
 unfold Za1 at h ⊢
 simp[World.setCell,Array.getElem?_modify,h]
theorem Za1.but {w w':World}{S:Nat→Prop}{p:Nat}{t:TypeId}{a b:Value}(h:Za1 w p t a b)(e:Zah S w w')(hs:¬S p):Za1 w' p t a b:=(e.block p h.ty.lt hs).trans h
theorem Za1.ext {w w':World}{p:Nat}{t:TypeId}{a b:Value}(h:Za1 w p t a b)(e:Ext w w'):Za1 w' p t a b:=(e.block p h.ty.lt).trans h
theorem Za1.grown {w w':World}{row:Option Nat}{p:Nat}{t:TypeId}{a b:Value}(h:Za1 w p t a b)(e:w.grownBy w' row)(hs:row≠some p):Za1 w' p t a b:=(e.block p h.ty.lt (fun q=>hs q.symm)).trans h
theorem Zai.src {w:World}{a:Option Addr}{n c:Nat}{xs:List ByteArray}(h:Zai w a n xs)(hc:a=none→n=0∧c=0):Zhx w (.slice a n c) (xs.map Value.string):=by
 obtain⟨il,ic,io⟩:=ZgQ h
 exact⟨a,n,c,rfl,hc,by simpa using il,io,ic⟩
structure ZeO (W0 w:World)(p8 lo:Nat)(ns vs:List ByteArray)(aN:Option Addr)(cN:Nat)(aV:Option Addr)(cV:Nat):Prop where
 box:Za1 w p8 138 (.slice aN ns.length cN) (.slice aV vs.length cV)
 nam:w.ownsRow lo 9 1 (.slice aN ns.length cN) ns.length (ns.map Value.string)
 val:w.ownsRow lo 9 1 (.slice aV vs.length cV) vs.length (vs.map Value.string)
 dis:∀b,(Value.slice aN ns.length cN).ownBlock=some b→(Value.slice aV vs.length cV).ownBlock≠some b
 but:Zah (fun b=>b=p8∨lo≤b) W0 w
theorem Za8 {w:World}{lo n p:Nat}{v x y:Value}{xs:List Value}(h:w.ownsRow lo 9 1 v n xs)(hp:Za1 w p 138 x y):v.ownBlock≠some p:=fun e=>(ZaN h e).ne hp.ty (by decide) rfl
theorem ZeO.pushN {W0 W w1:World}{p8 lo:Nat}{ns vs:List ByteArray}{aN aV:Option Addr}{cN cV g c':Nat}{x:ByteArray}{o:Obj}(h:ZeO W0 W p8 lo ns vs aN cN aV cV)
  (r1:w1.ownsRow lo 9 1 (.slice (some ⟨g,0,none⟩) (ns.length+1) c') (ns.length+1) (ns.map Value.string++[.string x])) (r2:(W.alloc o).grownBy w1 (Value.slice aN ns.length cN).ownBlock) (r3:(Value.slice aN ns.length cN).ownBlock=some g∨g=(W.alloc o).heap.size):
  Za1 w1 p8 138 (.slice aN ns.length cN) (.slice aV vs.length cV)∧ZeO W0 (w1.setCell ⟨p8,0,none⟩ (.slice (some ⟨g,0,none⟩) (ns.length+1) c')) p8 lo (ns++[x]) vs (some ⟨g,0,none⟩) c' aV cV:=by
 have e0:Ext W (W.alloc o):=Zab zbr o
 have hb:=(h.box.ext e0).grown r2 (Za8 (h.nam.alloc o) (h.box.ext e0))
 have hv:w1.ownsRow lo 9 1 (.slice aV vs.length cV) vs.length (vs.map Value.string):=(h.val.alloc o).kept r2 (by
  rcases hq:(Value.slice aV vs.length cV).ownBlock with _|b
  ·exact .inl rfl
  ·exact .inr fun e=>h.dis b e.symm hq)
 refine⟨hb,⟨?_,?_,?_,?_,?_⟩⟩
 ·rw[List.length_append]
  exact hb.set0 _
 ·rw[List.length_append,List.map_append]
  exact Zam r1 (.inr (Za8 r1 hb)) _
 ·exact Zam hv (.inr (Za8 hv hb)) _
 ·rw[List.length_append]
  intro b e1 e2
  cases e1
  rcases r3 with r3|r3
  ·exact h.dis _ r3 e2
  ·have:g<W.heap.size:=(ZaN h.val e2).lt
   have hz:(W.alloc o).heap.size=W.heap.size+1:=by simp
   omega
 ·have hm:=h.but.ext e0
  refine Zah.set (S:=fun b=>b=p8∨lo≤b) (Zah.grown hm r2 (fun b e=>.inl (.inr (h.nam.lt b e).1))) (.inl (.inl rfl)) _ _
theorem ZeO.pushV {W0 W w1:World}{p8 lo:Nat}{ns vs:List ByteArray}{aN aV:Option Addr}{cN cV g c':Nat}{x:ByteArray}{o:Obj}(h:ZeO W0 W p8 lo ns vs aN cN aV cV)
  (r1:w1.ownsRow lo 9 1 (.slice (some ⟨g,0,none⟩) (vs.length+1) c') (vs.length+1) (vs.map Value.string++[.string x])) (r2:(W.alloc o).grownBy w1 (Value.slice aV vs.length cV).ownBlock) (r3:(Value.slice aV vs.length cV).ownBlock=some g∨g=(W.alloc o).heap.size):
  Za1 w1 p8 138 (.slice aN ns.length cN) (.slice aV vs.length cV)∧ZeO W0 (w1.setCell ⟨p8,1,none⟩ (.slice (some ⟨g,0,none⟩) (vs.length+1) c')) p8 lo ns (vs++[x]) aN cN (some ⟨g,0,none⟩) c':=by
 have e0:Ext W (W.alloc o):=Zab zbr o
 have hb:=(h.box.ext e0).grown r2 (Za8 (h.val.alloc o) (h.box.ext e0))
 have hv:w1.ownsRow lo 9 1 (.slice aN ns.length cN) ns.length (ns.map Value.string):=(h.nam.alloc o).kept r2 (by
  rcases hq:(Value.slice aN ns.length cN).ownBlock with _|b
  ·exact .inl rfl
  ·exact .inr fun e=>h.dis b hq e.symm)
 refine⟨hb,⟨?_,?_,?_,?_,?_⟩⟩
 ·rw[List.length_append]
  exact hb.set1 _
 ·exact Zam (a:=⟨p8,1,none⟩) hv (.inr (Za8 hv hb)) _
 ·rw[List.length_append,List.map_append]
  exact Zam (a:=⟨p8,1,none⟩) r1 (.inr (Za8 r1 hb)) _
 ·rw[List.length_append]
  intro b e1 e2
  cases e2
  rcases r3 with r3|r3
  ·exact h.dis _ e1 r3
  ·have:g<W.heap.size:=(ZaN h.nam e1).lt
   have hz:(W.alloc o).heap.size=W.heap.size+1:=by simp
   omega
 ·have hm:=h.but.ext e0
  refine Zah.set (S:=fun b=>b=p8∨lo≤b) (Zah.grown hm r2 (fun b e=>.inl (.inr (h.val.lt b e).1))) (.inl (.inl rfl)) _ _
theorem ZeO.ext {W0 W w1:World}{p8 lo:Nat}{ns vs:List ByteArray}{aN aV:Option Addr}{cN cV:Nat}(h:ZeO W0 W p8 lo ns vs aN cN aV cV)(e:Ext W w1):ZeO W0 w1 p8 lo ns vs aN cN aV cV:=
 ⟨h.box.ext e,Zar h.nam e,Zar h.val e,h.dis,h.but.ext e⟩
