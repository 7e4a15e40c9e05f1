/- The document's Base in memory (layer 3): its relations, how many facts, whether it has one. -/
import Derived.Test.YtjfbjjmiobgjfaaGreatG18
import Derived.Deep.CutBlock
set_option maxRecDepth 100000
set_option maxHeartbeats 8000000
namespace Go.Proofs.YtjfbjjmiobgjfaaGreat
open ChangeShapes WideShapes ChangeAt RowKit
theorem Zd7 {w:World}{lo n c:Nat}{e:TypeId}{a:Option Addr}{xs:List Value}(h:w.ownsRow lo e 1 (.slice a n c) n xs){k:Nat}{v:Value}(hv:xs[k]? =some v):∃g,a=some ⟨g,0,none⟩∧w.cell? ⟨g,k,none⟩=some v:=by
 have hl:=h.1
 have hk:=(zgs hv).1
 rcases h.2 with⟨e1,e2⟩|⟨g,c1,cur,e1,_⟩
 ·omega
 ·cases e1
  have:=h.cells (g:=g) rfl k v hv
  rw[Addr.add_lit,Nat.zero_add] at this
  exact⟨g,rfl,this⟩
structure Za7 where
 name:ByteArray
 pb:Nat
 ar:Nat
 rs:List (List ByteArray)
structure ZaU (w:World)(lo bb:Nat)(l:List Za7):Prop where
 low:lo≤bb
 ty:Ty w bb 103
 f0:w.frozen? ⟨bb,0,none⟩=false
 f1:w.frozen? ⟨bb,1,none⟩=false
 names:∃(a:Option Addr) (c:Nat),(l=[]→a=none)∧w.cell? ⟨bb,0,none⟩=some (.slice a l.length c)∧w.ownsRow lo 9 1 (.slice a l.length c) l.length (l.map fun x=>.string x.name)
 all:∃(a:Option Addr) (c:Nat),(l=[]→a=none)∧w.cell? ⟨bb,1,none⟩=some (.slice a l.length c)∧w.ownsRow lo 44 1 (.slice a l.length c) l.length (l.map fun x=>.pointer (some ⟨x.pb,0,none⟩))
 rel:∀x∈l,lo≤x.pb∧ZbH w (x.pb+1) x.pb x.ar x.rs∧Ty w x.pb 105∧Zbs x.ar x.rs
 apart:l.Pairwise fun x y=>x.pb≠y.pb
 up:l.Pairwise fun x y=>ltB x.name y.name=true
theorem ZbH.ext {w w':World}{lo pb ar:Nat}{rs:List (List ByteArray)}(h:ZbH w lo pb ar rs)(e:Ext w w'):ZbH w' lo pb ar rs:=by
 obtain⟨a,c,vs,h1,h2,h3⟩:=h.row
 refine⟨h.lt,Zac e h.c0,?_,a,c,vs,Zac e h1,Zar h2 e,h3.1,fun i r v q1 q2=>Zar (h3.2 i r v q1 q2) e⟩
 exact(e.frozen (p:=⟨pb,1,none⟩) (World.block_lt_of_cell? w _ h1)).trans h.free
theorem ZaU.ext {w w':World}{lo bb:Nat}{l:List Za7}(h:ZaU w lo bb l)(e:Ext w w'):ZaU w' lo bb l:=by
 obtain⟨a,c,n0,n1,n2⟩:=h.names
 obtain⟨a2,c2,m0,m1,m2⟩:=h.all
 refine⟨h.low,h.ty.ext e,(e.frozen (p:=⟨bb,0,none⟩) h.ty.lt).trans h.f0,(e.frozen (p:=⟨bb,1,none⟩) h.ty.lt).trans h.f1,⟨a,c,n0,Zac e n1,Zar n2 e⟩,⟨a2,c2,m0,Zac e m1,Zar m2 e⟩,fun x hx=>?_,h.apart,h.up⟩
 obtain⟨q1,q2,q3,q4⟩:=h.rel x hx
 exact⟨q1,q2.ext e,q3.ext e,q4⟩
def Zbe (l:List Za7)(k:ByteArray):Option Za7:=l.find? fun x=>decide (x.name=k)
abbrev Zrd (x:Option Za7):Value:=.pointer (x.map fun x=>⟨x.pb,0,none⟩)
theorem ZcU (bb:Nat)(w:World):(binOp .eql 36 (.pointer (some ⟨bb,0,none⟩)) (.pointer none)).run Tryz.prog w=.ok (.bool false) w:=by kernel_rfl
theorem ZfO (lo bb:Nat)(l:List Za7)(s:ByteArray)(w:World)(h:ZaU w lo bb l)(hl:l.length≤1000000):
  Calls Tryz.prog 80 #[.pointer (some ⟨bb,0,none⟩),.string s] w fun e w'=>e=.returned (Zrd (Zbe l s))∧Ext w w':=by
 obtain⟨an,cn,_,n1,n2⟩:=h.names
 obtain⟨aa,ca,_,m1,m2⟩:=h.all
 have N1:=zh n1
 have N2:=zh n2
 have M1:=zh m1
 have M2:=zh m2
 have hnil:=ZcU bb
 obtain⟨n,hn⟩:∃n,l.length=n:=⟨_,rfl⟩
 have HN:=zh hn
 rw[hn] at N1 N2 M1 M2 hl
 obtain⟨R,hR⟩:∃R,R=Zbe l s:=⟨_,rfl⟩
 rw[←hR]
 have FIN:=zh hR
 clear h n1 n2 m1 m2 hR hn
 go_enter Tryz.func80,Tryz.ntmps80
 go_wp2
 go_loopw [5] (fun i wj=>∃k:Nat,k≤n∧i=.int .i64 (k:Int)∧Ext w wj∧R=Zbe (l.drop k) s) (fun i _=>n-(intOf i).toNat)
 case atStart=>exact⟨0,by omega,rfl,Below.refl _ _,by rw[FIN.out,List.drop_zero]⟩
 case round=>
  obtain⟨k,hk,rfl,hw,hq⟩:=hrel
  have HW:=zh hw
  have HQ:=zh hq
  have g0:=Zac hw N1.out
  have g1:=Zac hw M1.out
  clear hw hq
  by_cases hlt:k<n
  ·have hki:(k:Int)<(n:Int):=by omega
   obtain⟨x,hx⟩:∃x,l[k]? =some x:=⟨_,zge (by have:=HN.out;omega)⟩
   obtain⟨b1,rfl,h1⟩:=Zd7 N2.out (k:=k) (v:=.string x.name) (by rw[List.getElem?_map,hx];rfl)
   obtain⟨b2,rfl,h2⟩:=Zd7 M2.out (k:=k) (v:=.pointer (some ⟨x.pb,0,none⟩)) (by rw[List.getElem?_map,hx];rfl)
   have g2:=Zac HW.out h1
   have g3:=Zac HW.out h2
   have HX:=zh (Zbn hx)
   clear hx h1 h2
   obtain⟨q,hqq⟩:∃q,(x.name.toList==s.toList)=q:=⟨_,rfl⟩
   have HC:Hid (R=if q=true then some x else Zbe (l.drop (k+1)) s):=by
    show _=_
    rw[HQ.out,HX.out,←hqq,Zbr]
    unfold Zbe
    rw[List.find?_cons]
    by_cases e:x.name=s <;> simp[e]
   cases q with
   |true=>
    go_wp2
    go_returns
    exact⟨by rw[HC.out];rfl,HW.out⟩
   |false=>
    go_wp2
    go_roundw
    case rel=>exact⟨k+1,by omega,by go_num,HW.out,by rw[HC.out];rfl⟩
    case measure=>simp[intOf];omega
  ·obtain rfl:k=n:=by omega
   have hge:¬(k:Int)<(k:Int):=by omega
   have HY:Hid (R=none):=by
    show _=_
    have tk:l.drop k=[]:=List.drop_of_length_le (by have:=HN.out;omega)
    rw[HQ.out,tk]
    rfl
   go_wp2
   go_returns
   exact⟨by rw[HY.out];rfl,HW.out⟩
def Ze0 (l:List Za7):Nat:=(l.map fun x=>x.rs.length).sum
theorem Ze9 (x:Za7)(l:List Za7):Ze0 (x::l)=x.rs.length+Ze0 l:=by simp[Ze0]
theorem ZtB (lo bb:Nat)(l:List Za7)(w:World)(h:ZaU w lo bb l)(hl:l.length≤1000000)(hs:Ze0 l≤1000000):
  Calls Tryz.prog 96 #[.pointer (some ⟨bb,0,none⟩)] w fun e w'=>e=.returned (.int .i64 (Ze0 l:Nat))∧Ext w w':=by
 obtain⟨aa,ca,_,m1,m2⟩:=h.all
 have M1:=zh m1
 have M2:=zh m2
 have HS:=zh hs
 have HR:=zh h.rel
 have hnil:=ZcU bb
 obtain⟨n,hn⟩:∃n,l.length=n:=⟨_,rfl⟩
 have HN:=zh hn
 rw[hn] at M1 M2 hl
 obtain⟨R,hR⟩:∃R,R=Ze0 l:=⟨_,rfl⟩
 rw[←hR]
 have FIN:=zh hR
 clear h m1 m2 hR hn hs
 go_enter Tryz.func96,Tryz.ntmps96
 go_wp2
 go_loopw [3,4] (fun s i wj=>∃k c:Nat,k≤n∧i=.int .i64 (k:Int)∧s=.int .i64 (c:Int)∧Ext w wj∧R=c+Ze0 (l.drop k)) (fun _ i _=>n-(intOf i).toNat)
 case atStart=>exact⟨0,0,by omega,rfl,rfl,Below.refl _ _,by rw[FIN.out,List.drop_zero];omega⟩
 case round=>
  obtain⟨k,c,hk,rfl,rfl,hw,hq⟩:=hrel
  have HW:=zh hw
  have HQ:=zh hq
  have g1:=Zac hw M1.out
  clear hw hq
  by_cases hlt:k<n
  ·have hki:(k:Int)<(n:Int):=by omega
   obtain⟨x,hx⟩:∃x,l[k]? =some x:=⟨_,zge (by have:=HN.out;omega)⟩
   obtain⟨b2,rfl,h2⟩:=Zd7 M2.out (k:=k) (v:=.pointer (some ⟨x.pb,0,none⟩)) (by rw[List.getElem?_map,hx];rfl)
   obtain⟨ar,rc,vs,r1,_⟩:=(HR.out x (zmg hx)).2.1.row
   have g3:=Zac HW.out h2
   have g4:=Zac HW.out r1
   have HX:=zh (Zbn hx)
   obtain⟨m,hm⟩:∃m,x.rs.length=m:=⟨_,rfl⟩
   have HC:Hid (R=c+m+Ze0 (l.drop (k+1))):=by
    show _=_
    rw[HQ.out,HX.out,Ze9,hm]
    omega
   have hcm:c+m≤1000000:=by have:=HC.out;have:=HS.out;have:=FIN.out;omega
   rw[hm] at g4
   clear hx h2 r1 hm
   go_wp2
   go_roundw
   case rel=>exact⟨k+1,c+m,by omega,by go_num,by go_num,HW.out,HC.out⟩
   case measure=>simp[intOf];omega
  ·obtain rfl:k=n:=by omega
   have hge:¬(k:Int)<(k:Int):=by omega
   have HY:Hid (R=c):=by
    show _=_
    have tk:l.drop k=[]:=List.drop_of_length_le (by have:=HN.out;omega)
    rw[HQ.out,tk]
    rfl
   go_wp2
   go_returns
   exact⟨by rw[HY.out];rfl,HW.out⟩
theorem ZgV (w:World):(binOp .eql 44 (.pointer none) (.pointer none)).run Tryz.prog w=.ok (.bool true) w:=by kernel_rfl
theorem Zmv (ab:Option Addr)(m cb:Nat)(w:World):Calls Tryz.prog 85 #[.pointer none,.slice ab m cb] w fun e w'=>e=.returned (.int .i64 (-1))∧w'=w:=by
 have hnil:=ZgV
 go_enter Tryz.func85,Tryz.ntmps85
 go_wp2
 go_returns
 exact⟨rfl,rfl⟩
def Zpx (l:List Za7)(k:ByteArray)(t:List ByteArray):Bool:=match Zbe l k with
 |none=>false
 |some x=>decide (0≤Zcn x.rs t 0)
theorem ZbH.items {w:World}{lo pb ar:Nat}{rs:List (List ByteArray)}(h:ZbH w lo pb ar rs)(hn:rs.length≤1000000):∃a c,w.cell? ⟨pb,1,none⟩=some (.slice a rs.length c)∧Zcp w a rs.length rs:=by
 obtain⟨a,c,vs,h1,h2,h3⟩:=h.row
 exact⟨a,c,h1,Zax.itemsD h2 h3 (by unfold maxLen;omega)⟩
theorem ZtC (lo bb:Nat)(l:List Za7)(s:ByteArray)(t:List ByteArray)(ab:Option Addr)(m cb:Nat)(w:World)(h:ZaU w lo bb l)(hl:l.length≤1000000)(ht:Zai w ab m t):
  Calls Tryz.prog 81 #[.pointer (some ⟨bb,0,none⟩),.string s,.slice ab m cb] w fun e w'=>e=.returned (.bool (Zpx l s t))∧Ext w w':=by
 cases hx:Zbe l s with
 |none=>
  have RO:Hid (Calls Tryz.prog 80 #[.pointer (some ⟨bb,0,none⟩),.string s] w fun e w'=>e=.returned (.pointer none)∧Ext w w'):=by
   have:=ZfO lo bb l s w h hl
   rw[hx] at this
   exact this
  have HX:=zh hx
  have FI:=zh (Zmv ab m cb)
  clear h ht hx
  go_enter Tryz.func81,Tryz.ntmps81
  go_wp2_with (first|(go_at_call 80;(with_reducible refine RO.out.mono ?_);rintro e w1 ⟨rfl,e1⟩)|(go_at_call 85;(with_reducible refine(FI.out _).mono ?_);rintro e w2 ⟨rfl,hw2⟩;obtain rfl:=hw2.symm))
  go_returns
  refine⟨?_,e1⟩
  unfold Zpx
  rw[HX.out]
  rfl
 |some x=>
  have RO:Hid (Calls Tryz.prog 80 #[.pointer (some ⟨bb,0,none⟩),.string s] w fun e w'=>e=.returned (.pointer (some ⟨x.pb,0,none⟩))∧Ext w w'):=by
   have:=ZfO lo bb l s w h hl
   rw[hx] at this
   exact this
  have HX:=zh hx
  obtain⟨_,dr,_,ok⟩:=h.rel x (List.mem_of_find?_eq_some hx)
  obtain⟨a,c,q1,q2⟩:=dr.items (by have:=ok.few;omega)
  have FI:Hid (∀w1,Ext w w1→Calls Tryz.prog 85 #[.pointer (some ⟨x.pb,0,none⟩),.slice ab m cb] w1 fun e w'=>e=.returned (.int .i64 (Zcn x.rs t 0))∧∃q,w'=w1.drewN q):=fun w1 e1=>Zlp x.rs t x.pb a x.rs.length c ab m cb w1 (Zac e1 q1) (q2.keep e1) (ht.keep e1)
  obtain⟨F,hF⟩:∃F,Zcn x.rs t 0=F:=⟨_,rfl⟩
  have HF:=zh hF
  rw[hF] at FI
  clear h ht hx dr ok q1 q2 hF
  go_enter Tryz.func81,Tryz.ntmps81
  go_wp2_with (first|(go_at_call 80;(with_reducible refine RO.out.mono ?_);rintro e w1 ⟨rfl,e1⟩)|(go_at_call 85;(with_reducible refine(FI.out _ e1).mono ?_);rintro e w2 ⟨rfl,q,rfl⟩))
  go_returns
  refine⟨ZaS ?_,Zae e1 _⟩
  unfold Zpx
  rw[HX.out]
  simp only[HF.out]
def Zhx (w:World)(v:Value)(news:List Value):Prop:=∃aa m c,v=.slice aa m c∧(aa=none→m=0∧c=0)∧news.length=m∧(∀u∈news,u.oneCell'=true)∧∀ad,aa=some ad→∀j u,news[j]? =some u→w.cell? (ad.add j)=some u
theorem Zhx.ext {w w':World}{v:Value}{news:List Value}(h:Zhx w v news)(e:Ext w w'):Zhx w' v news:=by
 obtain⟨aa,m,c,h1,h2,h3,h4,h5⟩:=h
 exact⟨aa,m,c,h1,h2,h3,h4,fun ad ha j u hu=>ZuE e (h5 ad ha j u hu)⟩
theorem Zhx.box (w:World)(v:Value)(t:TypeId)(h:v.oneCell'=true):Zhx (w.alloc (.cells #[v] t)) (.slice (some ⟨w.heap.size,0,none⟩) 1 1) [v]:=
 ⟨_,_,_,rfl,(fun h=>by cases h),rfl,fun u hu=>by rw[List.mem_singleton.1 hu];exact h,ZeL w v t⟩
section
variable {P:Program} {w:World}
theorem ZaD {ops:Array Oper}{rest:List Oper}{o:Oper}{a:Act}{Q:Exit→Act→World→Prop}(hgd:o.guard=none)(s x:Operand)(t:TypeId)
  (ho:o.op=.call {callee:=.builtin .append,args:=#[s,x],argTypes:=#[t,t]})
  (base:Nat) (e:TypeId) (i:TypeInfo) (z:Value) (bytes:Nat) (ht:P.underlying t=some (.slice e)) (hi:P.info? e=some i) (hz:i.zero=some z)
  (hsize:i.size=1) (hby:i.bytes=bytes) (hzs:z.cells.size=1)
  (v:Value) (n:Nat) (xs:List Value) (hs:a.eval s=v) (hown:w.ownsRow base e 1 v n xs)
  (xv:Value) (m:Nat) (news:List Value) (hx:a.eval x=xv) (hsrc:Zhx w xv news) (hm:news.length=m)
  (h63:n+m≤maxLen) (hbytes:(n+m)*bytes≤140737488355328) (hbase:base≤w.heap.size)
  (h:∀v' w',w'.ownsRow base e 1 v' (n+m) (xs++news)→w.grownBy w' v.ownBlock→wpList P ops Q rest (a.put o.dst v') w'):wpList P ops Q (o::rest) a w:=by
 obtain⟨aa,m',c,rfl,h2,h3,h4,h5⟩:=hsrc
 obtain rfl:m'=m:=by omega
 exact Zas hgd s x t ho base e i z 1 bytes ht hi hz hsize hby hzs (by omega) v n xs hs hown aa m' c news hx h2 (by omega) h5 h4 h63 hbytes hbase h
end
theorem Znz {w:World}{lo n c K:Nat}{e:TypeId}{a:Option Addr}{xs:List Value}(h:w.ownsRow lo e 1 (.slice a n c) n xs)(hK:K≤n)(h1:∀u∈xs,u.oneCell'=true):
  (a=none∧n=0∧c=0∧Zhx w (.slice none 0 0) (xs.take K)∧Zhx w (.slice none 0 0) (xs.drop K))∨
  (∃g,a=some ⟨g,0,none⟩∧c=K∧n=K∧Zhx w (.slice (some ⟨g,0,none⟩) K K) (xs.take K)∧Zhx w (.slice (some ⟨g,0,none⟩) 0 0) (xs.drop K))∨
  (∃g,a=some ⟨g,0,none⟩∧K<c∧n≤c∧Zhx w (.slice (some ⟨g,0,none⟩) K c) (xs.take K)∧Zhx w (.slice (some ⟨g,K,none⟩) (n-K) (c-K)) (xs.drop K)):=by
 have hl:xs.length=n:=by rw[h.1,Nat.mul_one]
 have t1:∀u∈xs.take K,u.oneCell'=true:=fun u hu=>h1 u (List.mem_of_mem_take hu)
 have t2:∀u∈xs.drop K,u.oneCell'=true:=fun u hu=>h1 u (List.mem_of_mem_drop hu)
 have l1:(xs.take K).length=K:=by rw[List.length_take];omega
 have l2:(xs.drop K).length=n-K:=by rw[List.length_drop];omega
 have hs:=ZgO h
 have s1:∀ad,a=some ad→∀j u,(xs.take K)[j]? =some u→w.cell? (ad.add j)=some u:=fun ad ha j u hu=>by
  rw[List.getElem?_take] at hu
  split at hu
  ·exact hs ad ha j u hu
  ·cases hu
 rcases h.2 with⟨e1,e2⟩|⟨g,c1,cur,e1,_,_,hnc,_⟩
 ·cases e1
  have hx:xs=[]:=List.eq_nil_of_length_eq_zero hl
  subst hx
  refine .inl ⟨rfl,rfl,rfl,⟨_,_,_,rfl,fun _=>⟨rfl,rfl⟩,by simp,by simp,by simp⟩,⟨_,_,_,rfl,fun _=>⟨rfl,rfl⟩,by simp,by simp,by simp⟩⟩
 ·cases e1
  right
  by_cases hc:c=K
  ·refine .inl ⟨g,rfl,hc,by omega,⟨_,_,_,rfl,(fun h=>by cases h),l1,t1,s1⟩,⟨_,_,_,rfl,(fun h=>by cases h),by omega,fun u hu=>t2 u hu,fun ad ha j u hu=>?_⟩⟩
   have:=(zgs hu).1
   omega
  ·refine .inr ⟨g,rfl,by omega,hnc,⟨_,_,_,rfl,(fun h=>by cases h),l1,t1,s1⟩,⟨_,_,_,rfl,(fun h=>by cases h),l2,t2,fun ad ha j u hu=>?_⟩⟩
   cases ha
   rw[List.getElem?_drop] at hu
   have h3:=hs _ rfl (K+j) u hu
   rw[←h3,Addr.add_lit,Addr.add_lit,Nat.zero_add]
def atD (l:List Za7)(s:ByteArray):Nat:=(l.takeWhile fun x=>ltB x.name s).length
theorem Zfa (s:ByteArray):∀l:List Za7,atD l s≤l.length∧(∀j x,j<atD l s→l[j]? =some x→ltB x.name s=true)∧∀x,l[atD l s]? =some x→ltB x.name s=false
 |[]=>by simp[atD]
 |y::l=>by
  obtain⟨h1,h2,h3⟩:=Zfa s l
  by_cases hy:ltB y.name s=true
  ·have e:atD (y::l) s=atD l s+1:=by simp[atD,hy]
   rw[e]
   refine⟨by simp;omega,fun j x hj hx=>?_,fun x hx=>?_⟩
   ·match j,hx with
    |0,hx=>cases hx;exact hy
    |j+1,hx=>exact h2 j x (by omega) (by simpa using hx)
   ·exact h3 x (by simpa using hx)
  ·have e:atD (y::l) s=0:=by simp[atD,hy]
   rw[e]
   refine⟨by simp,fun j x hj=>by omega,fun x hx=>?_⟩
   cases hx
   simpa using hy
def Zj8 (l:List Za7)(x:Za7):List Za7:=l.take (atD l x.name)++x::l.drop (atD l x.name)
theorem ZpT:(Tryz.prog.info? 44).map (fun i=>(i.zero,i.size,i.bytes))=some (some (.pointer none),1,8):=by kernel_rfl
theorem Zjm {w w':World}{S:Nat→Prop}{lo pb ar:Nat}{rs:List (List ByteArray)}(h:ZbH w lo pb ar rs)(e:Zah S w w')(h1:¬S pb)(h2:∀b,S b→¬Ty w b 9∧¬Ty w b 54):ZbH w' lo pb ar rs:=by
 obtain⟨a,c,vs,r1,r2,r3⟩:=h.row
 refine⟨h.lt,e.cell h1 h.c0,ZaE e h1 (World.block_lt_of_cell? w _ r1) h.free,a,c,vs,e.cell h1 r1,e.own r2 (fun b hb hS=>(h2 b hS).2 (ZaN r2 hb)),r3.1,fun i r v q1 q2=>e.own (r3.2 i r v q1 q2) (fun b hb hS=>(h2 b hS).1 (ZaN (r3.2 i r v q1 q2) hb))⟩
theorem Zlr {α:Type}{R:α→α→Prop}{l:List α}{x:α}(K:Nat)(h:l.Pairwise R)(h1:∀y∈l.take K,R y x)(h2:∀y∈l.drop K,R x y):(l.take K++x::l.drop K).Pairwise R:=by
 rw[List.pairwise_append]
 have h0:=h
 rw[←List.take_append_drop K l,List.pairwise_append] at h0
 obtain⟨a1,a2,a3⟩:=h0
 refine⟨a1,List.pairwise_cons.2 ⟨h2,a2⟩,fun y hy z hz=>?_⟩
 rcases List.mem_cons.1 hz with rfl|hz
 ·exact h1 y hy
 ·exact a3 y hy z hz
theorem Zr7 {l:List Za7}(h:l.Pairwise fun x y=>ltB x.name y.name=true){x:Za7}(hn:∀y∈l,y.name≠x.name):(Zj8 l x).Pairwise fun x y=>ltB x.name y.name=true:=by
 obtain⟨h1,h2,h3⟩:=Zfa x.name l
 refine Zlr _ h (fun y hy=>?_) (fun y hy=>?_)
 ·obtain⟨j,hj⟩:=List.mem_iff_getElem?.1 hy
  rw[List.getElem?_take] at hj
  split at hj
  ·rename_i hlt
   exact h2 j y hlt hj
  ·cases hj
 ·obtain⟨j,hj⟩:=List.mem_iff_getElem?.1 hy
  rw[List.getElem?_drop] at hj
  have hjl:=(zgs hj).1
  obtain⟨z,hz⟩:∃z,l[atD l x.name]? =some z:=⟨_,zge (by omega)⟩
  have hzx:ltB x.name z.name=true:=by
   rcases Zfl x.name z.name with q|q|q
   ·exact q
   ·exact absurd q.symm (hn z (zmg hz))
   ·rw[h3 z hz] at q;cases q
  by_cases h0:j=0
  ·subst h0
   rw[Nat.add_zero,hz] at hj
   cases hj
   exact hzx
  ·obtain⟨u1,u2⟩:=zgs hz
   obtain⟨v1,v2⟩:=zgs hj
   have:=(List.pairwise_iff_getElem.1 h) _ _ u1 v1 (by omega)
   rw[u2,v2] at this
   exact Zbp hzx this
theorem Zls {w4 w5:World}{o:Obj}{b1 b2 n1 n2:Nat}{t1 t2:TypeId}{v1 v2:Value}{xs ys:List Value}(h:w4.ownsRow b1 t1 1 v1 n1 xs)(k:w4.ownsRow b2 t2 1 v2 n2 ys)(g:(w4.alloc o).grownBy w5 v2.ownBlock)(hne:t1≠t2):w5.ownsRow b1 t1 1 v1 n1 xs:=(h.alloc o).kept g (ZaK (h.alloc o) (k.alloc o) hne)
theorem ZnA {w w6:World}{lo bb K N:Nat}{l:List Za7}{x:Za7}(H:ZaU w lo bb l)(hlo:lo≤w.heap.size)(hx:lo≤x.pb∧ZbH w (x.pb+1) x.pb x.ar x.rs∧Ty w x.pb 105∧Zbs x.ar x.rs)(hnew:∀y∈l,y.pb≠x.pb∧y.name≠x.name)(hK:atD l x.name=K)(hN:l.length+1=N)(e6:Ext w w6){a3 a6:Option Addr}{c3 c6:Nat}
  (own3:w6.ownsRow w.heap.size 9 1 (.slice a3 N c3) N ((l.map fun x=>Value.string x.name).take K++[.string x.name]++(l.map fun x=>Value.string x.name).drop K))
  (own6:w6.ownsRow w.heap.size 44 1 (.slice a6 N c6) N ((l.map fun x=>Value.pointer (some ⟨x.pb,0,none⟩)).take K++[.pointer (some ⟨x.pb,0,none⟩)]++(l.map fun x=>Value.pointer (some ⟨x.pb,0,none⟩)).drop K)):
  ZaU ((w6.setCell ⟨bb,0,none⟩ (.slice a3 N c3)).setCell ⟨bb,1,none⟩ (.slice a6 N c6)) lo bb (Zj8 l x)∧Zah (fun b=>b=bb) w ((w6.setCell ⟨bb,0,none⟩ (.slice a3 N c3)).setCell ⟨bb,1,none⟩ (.slice a6 N c6)):=by
 have hb:Zah (fun b=>b=bb) w ((w6.setCell ⟨bb,0,none⟩ (.slice a3 N c3)).setCell ⟨bb,1,none⟩ (.slice a6 N c6)):=Zah.set (S:=fun b=>b=bb) (Zah.set (S:=fun b=>b=bb) (Zah.ext (Zah.refl _ w) e6) (.inl rfl) 0 _) (.inl rfl) 1 _
 have hp:Zj8 l x=l.take K++x::l.drop K:=by unfold Zj8;rw[hK]
 have hk:K≤l.length:=by rw[←hK];exact(Zfa x.name l).1
 have hlen:(Zj8 l x).length=N:=by
  rw[hp,List.length_append,List.length_cons,List.length_take,List.length_drop];omega
 have H6:=H.ext e6
 obtain⟨_,_,_,n1,_⟩:=H6.names
 obtain⟨_,_,_,m1,_⟩:=H6.all
 have ne:Zj8 l x≠[]:=by rw[hp];simp
 have sz:=H.ty.lt
 have bk:∀{n:Nat} {e:TypeId} {v:Value} {xs:List Value},w6.ownsRow w.heap.size e 1 v n xs→((w6.setCell ⟨bb,0,none⟩ (.slice a3 N c3)).setCell ⟨bb,1,none⟩ (.slice a6 N c6)).ownsRow lo e 1 v n xs:=fun {n e v xs} q=>by
  have hne:v.ownBlock=none∨v.ownBlock≠some bb:=by
   rcases hq:v.ownBlock with _|b
   ·exact .inl rfl
   ·refine .inr fun e=>?_
    cases e
    have:=(q.lt bb hq).1
    omega
  exact Zam (Zam (Zao q hlo) (a:=⟨bb,0,none⟩) hne _) (a:=⟨bb,1,none⟩) hne _
 have nty:∀b,b=bb→¬Ty w b 9∧¬Ty w b 54:=fun b hb=>by
  subst hb
  exact⟨fun q=>q.ne H.ty (by decide) rfl,fun q=>q.ne H.ty (by decide) rfl⟩
 have hr:∀y:Za7,(lo≤y.pb∧ZbH w (y.pb+1) y.pb y.ar y.rs∧Ty w y.pb 105∧Zbs y.ar y.rs)→(lo≤y.pb∧ZbH ((w6.setCell ⟨bb,0,none⟩ (.slice a3 N c3)).setCell ⟨bb,1,none⟩ (.slice a6 N c6)) (y.pb+1) y.pb y.ar y.rs∧Ty ((w6.setCell ⟨bb,0,none⟩ (.slice a3 N c3)).setCell ⟨bb,1,none⟩ (.slice a6 N c6)) y.pb 105∧Zbs y.ar y.rs):=fun y ⟨q1,q2,q3,q4⟩=>by
  have hyb:¬y.pb=bb:=q3.ne H.ty (by decide)
  exact⟨q1,Zjm q2 hb hyb nty,q3.but hb hyb,q4⟩
 have mem:∀y:Za7,y∈Zj8 l x↔y=x∨y∈l:=fun y=>by
  rw[hp]
  conv=>rhs;rw[←List.take_append_drop K l]
  simp only[List.mem_append,List.mem_cons]
  constructor
  ·rintro (h|h|h)
   ·exact .inr (.inl h)
   ·exact .inl h
   ·exact .inr (.inr h)
  ·rintro (h|h|h)
   ·exact .inr (.inl h)
   ·exact .inl h
   ·exact .inr (.inr h)
 have memT:∀y∈l.take K,y∈l:=fun y hy=>List.mem_of_mem_take hy
 have memD:∀y∈l.drop K,y∈l:=fun y hy=>List.mem_of_mem_drop hy
 refine⟨⟨H.low,?_,?_,?_,⟨a3,c3,fun h=>absurd h ne,?_,?_⟩,⟨a6,c6,fun h=>absurd h ne,?_,?_⟩,fun y hy=>?_,?_,Zr7 H.up fun y hy=>(hnew y hy).2⟩,hb⟩
 ·obtain⟨cs,q,hq⟩:=H6.ty
  obtain⟨cs1,h1⟩:=Zbk hq 0 (.slice a3 N c3)
  obtain⟨cs2,h2⟩:=Zbk h1 1 (.slice a6 N c6)
  exact⟨cs2,q,h2⟩
 ·rw[World.frozen?_setCell,World.frozen?_setCell];exact H6.f0
 ·rw[World.frozen?_setCell,World.frozen?_setCell];exact H6.f1
 ·rw[hlen,World.cell?_setCell_other _ _ _ _ (by simp)]
  exact World.cell?_setCell_same _ _ _ n1
 ·rw[hlen]
  have:=bk own3
  rw[hp]
  simpa [List.map_take,List.map_drop] using this
 ·rw[hlen]
  exact World.cell?_setCell_same _ _ _ (by rw[World.cell?_setCell_other _ _ _ _ (by simp)];exact m1)
 ·rw[hlen]
  have:=bk own6
  rw[hp]
  simpa [List.map_take,List.map_drop] using this
 ·rcases (mem y).1 hy with rfl|hy
  ·exact hr y hx
  ·exact hr y (H.rel y hy)
 ·rw[hp]
  exact Zlr K H.apart (fun y hy=>(hnew y (memT y hy)).1) (fun y hy=>Ne.symm (hnew y (memD y hy)).1)
theorem ZtD (lo bb:Nat)(l:List Za7)(x:Za7)(w:World)(h:ZaU w lo bb l)(hl:l.length≤1000000)(hlo:lo≤w.heap.size)(hx:lo≤x.pb∧ZbH w (x.pb+1) x.pb x.ar x.rs∧Ty w x.pb 105∧Zbs x.ar x.rs)(hnew:∀y∈l,y.pb≠x.pb∧y.name≠x.name):
  Calls Tryz.prog 95 #[.pointer (some ⟨bb,0,none⟩),.string x.name,.pointer (some ⟨x.pb,0,none⟩)] w fun e w'=>(∃v,e=.returned v)∧ZaU w' lo bb (Zj8 l x)∧Zah (fun b=>b=bb) w w':=by
 obtain⟨i0,hi,hz0,hz1,hz2⟩:=info_parts ZbI
 obtain⟨j0,gi,gz0,gz1,gz2⟩:=info_parts ZpT
 obtain⟨an,cn,n0,n1,n2⟩:=h.names
 obtain⟨aa,ca,m0,m1,m2⟩:=h.all
 have AN0:=zh n0
 have AA0:=zh m0
 clear n0 m0
 have H:=zh h
 have HX:=zh hx
 have HNW:=zh hnew
 obtain⟨n,hn⟩:∃n,l.length=n:=⟨_,rfl⟩
 have HN:=zh hn
 rw[hn] at n1 n2 m1 m2 hl
 obtain⟨K,hK⟩:∃K,atD l x.name=K:=⟨_,rfl⟩
 have HK:=zh hK
 obtain⟨k1,k2,k3⟩:=Zfa x.name l
 rw[hK] at k1 k2 k3
 rw[hn] at k1
 have K2:=zh k2
 have K3:=zh k3
 obtain⟨vn,hvn⟩:∃vn:List Value,l.map (fun x=>Value.string x.name)=vn:=⟨_,rfl⟩
 obtain⟨va,hva⟩:∃va:List Value,l.map (fun x=>Value.pointer (some ⟨x.pb,0,none⟩))=va:=⟨_,rfl⟩
 have HVN:=zh hvn
 have HVA:=zh hva
 rw[hvn] at n2
 rw[hva] at m2
 have o1:∀u∈vn,u.oneCell'=true:=fun u hu=>by rw[←hvn] at hu;obtain⟨y,_,rfl⟩:=List.mem_map.1 hu;rfl
 have o2:∀u∈va,u.oneCell'=true:=fun u hu=>by rw[←hva] at hu;obtain⟨y,_,rfl⟩:=List.mem_map.1 hu;rfl
 have N1:=zh n1
 have N2:=zh n2
 have M1:=zh m1
 have M2:=zh m2
 have tl1:Hid ((vn.take K).length=K):=by show _=_;rw[List.length_take,n2.1];omega
 have tl2:Hid ((vn.drop K).length=n-K):=by show _=_;rw[List.length_drop,n2.1];omega
 have tl3:Hid ((va.take K).length=K):=by show _=_;rw[List.length_take,m2.1];omega
 have tl4:Hid ((va.drop K).length=n-K):=by show _=_;rw[List.length_drop,m2.1];omega
 have C0:Hid (∀w1,Ext w w1→w1.cell? ⟨bb,0,none⟩=some (.slice an n cn)):=fun w1 e=>Zac e N1.out
 have C1:Hid (∀w1,Ext w w1→w1.cell? ⟨bb,1,none⟩=some (.slice aa n ca)):=fun w1 e=>Zac e M1.out
 have F0:Hid (∀w1,Ext w w1→w1.frozen? ⟨bb,0,none⟩=false):=fun w1 e=>(H.out.ext e).f0
 have F1:Hid (∀w1,Ext w w1→w1.frozen? ⟨bb,1,none⟩=false):=fun w1 e=>(H.out.ext e).f1
 have NO:Hid (∀(w1:World) (e:TypeId),w1.ownsRow w.heap.size e 1 (.slice none 0 0) 0 []):=fun w1 e=>World.ownsRow_nil _ _ _ _
 have BZ:Hid (∀w1,Ext w w1→w.heap.size≤w1.heap.size):=fun w1 e=>e.size
 have Y1:Hid (0+K≤maxLen∧K+1≤maxLen∧K+1+(n-K)≤maxLen):=⟨by unfold maxLen;omega,by unfold maxLen;omega,by unfold maxLen;omega⟩
 have Y2:Hid ((0+K)*16≤140737488355328∧(K+1)*16≤140737488355328∧(K+1+(n-K))*16≤140737488355328):=⟨by omega,by omega,by omega⟩
 have Y3:Hid ((0+K)*8≤140737488355328∧(K+1)*8≤140737488355328∧(K+1+(n-K))*8≤140737488355328):=⟨by omega,by omega,by omega⟩
 have hnil:=ZcU bb
 have CN:=Znz n2 k1 o1
 have CA:=Znz m2 k1 o2
 have hKi:(K:Int)≤(n:Int):=by omega
 clear h hx hnew hn hK k2 k3 hvn hva n1 n2 m1 m2 o1 o2
 go_enter Tryz.func95,Tryz.ntmps95
 go_upto_block 0 with (fail)
 go_cut [8] (fun v8 wc=>v8=.int .i64 (K:Int)∧Ext w wc)
 case first=>
  clear CN CA
  go_wp2
  go_loopw [8] (fun v wj=>∃k:Nat,k≤K∧v=.int .i64 (k:Int)∧Ext w wj) (fun v _=>K-(intOf v).toNat)
  case atStart=>exact⟨0,Nat.zero_le _,rfl,Below.refl _ _⟩
  case round=>
   obtain⟨k,hk,rfl,hw⟩:=hrel
   have HW:=zh hw
   have c1:=C0.out _ hw
   clear hw
   by_cases hlt:k<n
   ·have hki:(k:Int)<(n:Int):=by omega
    obtain⟨y,hy⟩:∃y,l[k]? =some y:=⟨_,zge (by have:=HN.out;omega)⟩
    obtain⟨b1,rfl,h1⟩:=Zd7 N2.out (k:=k) (v:=.string y.name) (by rw[←HVN.out,List.getElem?_map,hy];rfl)
    have g1:=Zac HW.out h1
    obtain⟨b,hb⟩:∃b,Op.bytesLess y.name.toList x.name.toList=b:=⟨_,rfl⟩
    have HB:Hid (ltB y.name x.name=b):=hb
    cases b with
    |true=>
     have hkL:k<K:=by
      rcases Nat.lt_or_ge k K with h|h
      ·exact h
      ·obtain rfl:k=K:=by omega
       have h5:=K3.out y hy
       rw[HB.out] at h5
       cases h5
     clear hy h1
     go_wp2
     go_roundw
     case rel=>exact⟨k+1,by omega,by go_num,HW.out⟩
     case measure=>simp[intOf];omega
    |false=>
     have hkL:k=K:=by
      rcases Nat.lt_or_ge k K with h|h
      ·have h5:=K2.out k y h hy
       rw[HB.out] at h5
       cases h5
      ·omega
     subst hkL
     clear hy h1
     go_wp2
     go_meet
     exact⟨rfl,HW.out⟩
   ·obtain rfl:k=n:=by omega
    obtain rfl:k=K:=by omega
    have hge:¬(k:Int)<(k:Int):=by omega
    go_wp2
    go_meet
    exact⟨rfl,HW.out⟩
 case rest=>
  obtain⟨rfl,hw⟩:=hcut
  have HW:=zh hw
  have c0:=C0.out _ hw
  clear hw
  have e0:=HW.out
  have e2x:∀{w1:World},Ext w w1→Ext w w1:=fun h=>h
  have k0:=zh k1
  rcases CN with⟨rfl,hn0,rfl,sn1,sn2⟩|⟨gn,rfl,hcn,hcn1,sn1,sn2⟩|⟨gn,rfl,hcn,hcn2,sn1,sn2⟩ <;> rcases CA with⟨rfl,hn1,rfl,sa1,sa2⟩|⟨ga,rfl,hca,hca1,sa1,sa2⟩|⟨ga,rfl,hca,hca2,sa1,sa2⟩
  all_goals first
   |(exfalso;have hl0:l=[]:=List.eq_nil_of_length_eq_zero (by have:=HN.out;omega);first|(have:=AN0.out hl0;cases this;done)|(have:=AA0.out hl0;cases this;done))
   |skip
  case' inl.inl=>
   obtain rfl:n=0:=hn0
   obtain rfl:K=0:=by omega
  case' inr.inl.inr.inl=>
   obtain rfl:n=K:=hcn1
   obtain rfl:cn=n:=hcn
   obtain rfl:ca=cn:=hca
  case' inr.inl.inr.inr=>
   obtain rfl:n=K:=hcn1
   obtain rfl:cn=n:=hcn
   rw[Nat.sub_self] at sa2
  case' inr.inr.inr.inl=>
   obtain rfl:n=K:=hca1
   obtain rfl:ca=n:=hca
   rw[Nat.sub_self] at sn2
  all_goals
   go_wp2_with (first|(at_builtin;(refine ZaD rfl _ _ 54 rfl w.heap.size 9 i0 (.string ⟨#[]⟩) 16 Tryz.underlying54 hi hz0 hz1 hz2 rfl _ _ _ rfl (NO.out _ _) _ _ _ rfl (sn1.ext e0) tl1.out Y1.out.1 Y2.out.1 (BZ.out _ e0) ?_);intro v1 w1 own1 g1;obtain⟨a1,c1,rfl,_⟩:=Zag own1;have e1:Ext w w1:=Zaz e0 g1 (by intro g e;cases e);rw[Nat.zero_add,List.nil_append] at own1)|(at_builtin;(refine ZaD rfl _ _ 54 rfl w.heap.size 9 i0 (.string ⟨#[]⟩) 16 Tryz.underlying54 hi hz0 hz1 hz2 rfl _ _ _ rfl (Zar own1 (Zab zbr _)) _ 1 _ rfl (Zhx.box _ _ _ rfl) rfl Y1.out.2.1 Y2.out.2.1 (BZ.out _ (Zab e1 _)) ?_);intro v2 w2 own2 g2;obtain⟨a2,c2,rfl,_⟩:=Zag own2;have e2:Ext w w2:=Zaz (Zab e1 _) g2 (fun g e=>(own1.lt g e).1);have q0:=C0.out _ e2)|(at_builtin;(refine ZaD rfl _ _ 54 rfl w.heap.size 9 i0 (.string ⟨#[]⟩) 16 Tryz.underlying54 hi hz0 hz1 hz2 rfl _ _ _ rfl own2 _ _ _ rfl (sn2.ext (e2x e2)) tl2.out Y1.out.2.2 Y2.out.2.2 (BZ.out _ e2) ?_);intro v3 w3 own3 g3;obtain⟨a3,c3,rfl,_⟩:=Zag own3;have e3:Ext w w3:=Zaz e2 g3 (fun g e=>(own2.lt g e).1);have q1:=C1.out _ e3)|(at_builtin;(refine ZaD rfl _ _ 101 rfl w.heap.size 44 j0 (.pointer none) 8 Tryz.underlying101 gi gz0 gz1 gz2 rfl _ _ _ rfl (NO.out _ _) _ _ _ rfl (sa1.ext (e2x e3)) tl3.out Y1.out.1 Y3.out.1 (BZ.out _ e3) ?_);intro v4 w4 own4 g4;obtain⟨a4,c4,rfl,_⟩:=Zag own4;have e4:Ext w w4:=Zaz e3 g4 (by intro g e;cases e);rw[Nat.zero_add,List.nil_append] at own4)|(at_builtin;(refine ZaD rfl _ _ 101 rfl w.heap.size 44 j0 (.pointer none) 8 Tryz.underlying101 gi gz0 gz1 gz2 rfl _ _ _ rfl (Zar own4 (Zab zbr _)) _ 1 _ rfl (Zhx.box _ _ _ rfl) rfl Y1.out.2.1 Y3.out.2.1 (BZ.out _ (Zab e4 _)) ?_);intro v5 w5 own5 g5;obtain⟨a5,c5,rfl,_⟩:=Zag own5;have e5:Ext w w5:=Zaz (Zab e4 _) g5 (fun g e=>(own4.lt g e).1);have q2:=C1.out _ e5)|(at_builtin;(refine ZaD rfl _ _ 101 rfl w.heap.size 44 j0 (.pointer none) 8 Tryz.underlying101 gi gz0 gz1 gz2 rfl _ _ _ rfl own5 _ _ _ rfl (sa2.ext (e2x e5)) tl4.out Y1.out.2.2 Y3.out.2.2 (BZ.out _ e5) ?_);intro v6 w6 own6 g6;obtain⟨a6,c6,rfl,_⟩:=Zag own6;have e6:Ext w w6:=Zaz e5 g6 (fun g e=>(own5.lt g e).1);have q3:=C0.out _ e6;have q4:=C1.out _ e6;have q5:=F0.out _ e6;have q6:=F1.out _ e6))
   go_end0
   have t4:=own3.kept g4 (ZaK own3 (NO.out _ 44) (by decide))
   have t5:=Zls t4 own4 g5 (by decide)
   have t6:=t5.kept g6 (ZaK t5 own5 (by decide))
   rw[←HVN.out] at t6
   first
    |(rw [←HVA.out] at own6;exact⟨⟨_,rfl⟩,ZnA H.out hlo HX.out HNW.out HK.out (by have:=HN.out;have:=k0.out;omega) e6 t6 own6⟩)
    |(simp only[Nat.sub_self,Nat.add_zero] at t6 own6;rw[←HVA.out] at own6;exact⟨⟨_,rfl⟩,ZnA H.out hlo HX.out HNW.out HK.out (by have:=HN.out;have:=k0.out;omega) e6 t6 own6⟩)
