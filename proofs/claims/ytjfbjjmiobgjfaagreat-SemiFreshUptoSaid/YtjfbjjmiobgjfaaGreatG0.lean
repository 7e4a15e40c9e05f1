/- General lemmas on worlds, cells and slices, over any program. -/
import Derived.WalkLawsBesides
import Derived.WalkSpells
import Derived.Handy
import Derived.Lib.Hide
import Derived.BigQuiet
import Derived.Deep.RegionHeld3
import Derived.Deep.DeepCutAuto
import Derived.Laws.AppendOwnNone
import Derived.Deep.AppendLies
import Derived.Deep.Onto
import Derived.Test.YtjfbjjmiobgjfaaGreatRows
set_option maxRecDepth 100000
set_option maxHeartbeats 8000000
namespace Go.Proofs.YtjfbjjmiobgjfaaGreat
open ChangeShapes WideShapes ChangeAt RowKit
theorem zbr {w:World}:Below w.heap.size w w:=Below.refl _ _
theorem zgs {α:Type}{l:List α}{i:Nat}{a:α}(h:l[i]? =some a):∃h:i<l.length,l[i]=a:=List.getElem?_eq_some_iff.1 h
theorem zmg {α:Type}{l:List α}{i:Nat}{a:α}(h:l[i]? =some a):a∈l:=List.mem_of_getElem? h
theorem zge {α:Type}{l:List α}{i:Nat}(h:i<l.length):l[i]? =some l[i]:=List.getElem?_eq_getElem h
theorem zh {p:Prop}(h:p):Hid p:=Lib.hid h
theorem zag {α:Type}{l:Array α}{i:Nat}{a:α}(h:l[i]? =some a):∃h:i<l.size,l[i]=a:=Array.getElem?_eq_some_iff.1 h
end Go.Proofs.YtjfbjjmiobgjfaaGreat
namespace Go.Proofs.YtjfbjjmiobgjfaaGreat
open ChangeShapes WideShapes ChangeAt RowKit
theorem Zba {P:Program}{c:Code}{Q:Exit→Act→World→Prop}{a:Act}{w:World}(h:∀W,W=w→c.wp P Q a W):c.wp P Q a w:=h w rfl
abbrev Ext (w w':World):Prop:=Below w.heap.size w w'
theorem Zaa {a b c:World}(h:Ext a b)(k:Ext b c):Ext a c:=h.trans (k.mono h.size)
theorem Zab {a b:World}(h:Ext a b)(o:Obj):Ext a (b.alloc o):=h.alloc h.size o
theorem Zaf {a b:World}(h:Ext a b):Ext a b.drew:=h.drew
theorem Zae {a b:World}(h:Ext a b)(n:Nat):Ext a (b.drewN n):=below_drewN h n
theorem Zal {a b:World}(h:Ext a b){p:Addr}(hp:a.heap.size≤p.block)(v:Value):Ext a (b.setCell p v):=h.setCell hp v
theorem Zac {W w:World}{p:Addr}{v:Value}(hb:Ext W w)(h:W.cell? p=some v):w.cell? p=some v:=by
 rw[hb.cell (World.block_lt_of_cell? W p h)];exact h
theorem Zby (s:ByteArray)(l:List UInt8):s.toList=l↔s=⟨l.toArray⟩:=by
 rw[ByteArray.toList_eq]
 obtain⟨⟨x⟩⟩:=s
 simp
theorem ZcN {k:IntKind}{a b:Int}(h:a=b):Ending.returned (.int k a)=.returned (.int k b):=by rw[h]
theorem ZaS {a b:Bool}(h:a=b):Ending.returned (.bool a)=.returned (.bool b):=by rw[h]
theorem Zbr (a b:ByteArray):(a.toList==b.toList)=decide (a=b):=by
 rw[Bool.eq_iff_iff,beq_iff_eq,decide_eq_true_eq,Zby]
 obtain⟨⟨x⟩⟩:=b
 rw[ByteArray.toList_eq]
theorem ZaA {α:Type}{l:List α}{k:Nat}{x:α}(h:l[k]? =some x):l.take (k+1)=l.take k++[x]:=by
 rw[List.take_add_one,h];rfl
theorem Zbn {α:Type}{l:List α}{k:Nat}{x:α}(h:l[k]? =some x):l.drop k=x::l.drop (k+1):=by
 obtain⟨hk,rfl⟩:=zgs h
 exact List.drop_eq_getElem_cons hk
def ZgM (a:Option Addr)(n cap:Nat):Prop:=n≤cap∧(a=none→n=0∧cap=0)
theorem ZgN {a b:World}(h:Ext a b)(row:Option Nat):a.grownBy b row:=⟨h.os,h.tape,h.output,h.size,fun i hi _=>h.block i hi⟩
theorem ZaK {w:World}{b1 b2 n1 n2 s1 s2:Nat}{e1 e2:TypeId}{v1 v2:Value}{x1 x2:List Value}(h1:w.ownsRow b1 e1 s1 v1 n1 x1)(h2:w.ownsRow b2 e2 s2 v2 n2 x2)(hne:e1≠e2):v1.ownBlock=none∨v1.ownBlock≠v2.ownBlock:=by
 rcases h1.2 with⟨rfl,_⟩|⟨g1,c1,cur1,rfl,_,hg1,_⟩
 ·exact .inl rfl
 ·right
  rcases h2.2 with⟨rfl,_⟩|⟨g2,c2,cur2,rfl,_,hg2,_⟩
  ·simp[Value.ownBlock]
  ·simp only[Value.ownBlock]
   intro e
   cases e
   rw[hg1] at hg2
   cases hg2
   exact hne rfl
theorem Zag {w:World}{base n size:Nat}{e:TypeId}{v:Value}{xs:List Value}(h:w.ownsRow base e size v n xs):∃a cap,v=.slice a n cap∧n≤cap:=by
 rcases h.2 with⟨rfl,rfl⟩|⟨g,cap,cur,rfl,_,_,hn,_⟩
 ·exact⟨none,0,rfl,Nat.le_refl _⟩
 ·exact⟨_,cap,rfl,hn⟩
theorem Za0 {w:World}{base n size:Nat}{e:TypeId}{v:Value}{xs:List Value}(h:w.ownsRow base e size v n xs)(hn:0<n):∃g cap,v=.slice (some ⟨g,0,none⟩) n cap∧n≤cap:=by
 rcases h.2 with⟨_,h0⟩|⟨g,cap,cur,hv,hb,hg,hc,_⟩
 ·omega
 ·exact⟨g,cap,hv,hc⟩
theorem Zao {w:World}{base base':Nat}{e:TypeId}{size n:Nat}{v:Value}{xs:List Value}(h:w.ownsRow base e size v n xs)(hb:base'≤base):w.ownsRow base' e size v n xs:=by
 refine⟨h.1,?_⟩
 rcases h.2 with h|⟨g,cap,cur,h1,h2,h3⟩
 ·exact .inl h
 ·exact .inr ⟨g,cap,cur,h1,by omega,h3⟩
theorem Zaz {W w w':World}{row:Option Nat}(h:Ext W w)(k:w.grownBy w' row)(ho:∀g,row=some g→W.heap.size≤g):Ext W w':=
 ⟨k.os.trans h.os,k.tape.trans h.tape,k.output.trans h.output,Nat.le_trans h.size k.size,fun i hi=>(k.block i (Nat.lt_of_lt_of_le hi h.size) (fun e=>by have:=ho i e.symm;omega)).trans (h.block i hi)⟩
theorem ZaF {w:World}{base e size n cap:Nat}{a:Option Addr}{xs:List Value}(h:w.ownsRow base e size (.slice a n cap) n xs):ZgM a n cap:=by
 rcases h.2 with⟨h1,h0⟩|⟨g,c',cur,hv,_,_,hc,_⟩
 ·cases h1
  exact⟨Nat.le_refl _,fun _=>⟨rfl,rfl⟩⟩
 ·cases hv
  exact⟨hc,by intro h;cases h⟩
theorem Za3 {a:Nat}{w:World}{o:Obj}(h:a≤w.heap.size):a≤(w.alloc o).heap.size:=Nat.le_trans h (by simp)
theorem Zar {w w':World}{base n size:Nat}{e:TypeId}{v:Value}{xs:List Value}(h:w.ownsRow base e size v n xs)(k:Ext w w'):w'.ownsRow base e size v n xs:=h.kept (ZgN k none) (by cases v.ownBlock <;> simp)
theorem ZuE {W w:World}(hb:Ext W w){a:Addr}{v:Value}(h:W.cell? a=some v):w.cell? a=some v:=by
 rw[←h]
 exact hb.cell (World.block_lt_of_cell? W a h)
theorem ZgO {w:World}{base n size:Nat}{e:TypeId}{a:Option Addr}{c:Nat}{xs:List Value}(h:w.ownsRow base e size (.slice a n c) n xs):∀ad,a=some ad→∀j u,xs[j]? =some u→w.cell? (ad.add j)=some u:=by
 intro ad e' j u hu
 rcases h.2 with⟨h1,_⟩|⟨g,c',cur,hv,_⟩
 ·cases h1
  cases e'
 ·cases hv
  cases e'
  exact h.cells (g:=g) rfl j u hu
theorem Zam {w:World}{base n size:Nat}{e:TypeId}{v:Value}{xs:List Value}(h:w.ownsRow base e size v n xs){a:Addr}(hne:v.ownBlock=none∨v.ownBlock≠some a.block)(u:Value):(w.setCell a u).ownsRow base e size v n xs:=
 h.kept (row:=some a.block) ⟨rfl,rfl,rfl,by simp,fun k _ hk=>heap_setCell_other w a k u (fun e=>hk (by simp[e]))⟩ hne
theorem ZrL {w:World}{base n size cap:Nat}{e:TypeId}{a:Option Addr}{xs:List Value}(h:w.ownsRow base e size (.slice a (n+1) cap) (n+1) xs):w.ownsRow base e size (.slice a n cap) n (xs.take (n*size)):=by
 obtain⟨hl,h2⟩:=h
 rcases h2 with⟨h0,_⟩|⟨g,cap',cur,hv,hg,hh,hn,hcap,hsz,ht⟩
 ·cases h0
 ·cases hv
  refine⟨by rw[List.length_take,hl,Nat.min_eq_left (Nat.mul_le_mul_right _ (by omega))],.inr ⟨g,cap,cur,rfl,hg,hh,by omega,hcap,hsz,?_⟩⟩
  rw[←ht,List.take_take,Nat.min_eq_left (Nat.mul_le_mul_right _ (by omega))]
theorem Zlf {W w1:World}(hb:Ext W w1):(∀b o,b<W.heap.size→w1.cell? ⟨b,o,none⟩=W.cell? ⟨b,o,none⟩)∧(∀b o,b<W.heap.size→w1.frozen? ⟨b,o,none⟩=W.frozen? ⟨b,o,none⟩):=
 ⟨fun b o h=>hb.cell (p:=⟨b,o,none⟩) h,fun b o h=>hb.frozen (p:=⟨b,o,none⟩) h⟩
def Zce {α:Type}(E:World→Nat→Nat→α→Prop)(size:Nat)(w:World)(a:Option Addr)(n:Nat)(xs:List α):Prop:=
 xs.length=n∧∀i x,xs[i]? =some x→∃b off,a=some ⟨b,off,none⟩∧E w b (off+i*size) x
theorem Zce.keep {α:Type}{E:World→Nat→Nat→α→Prop}{size:Nat}{W w:World}{a:Option Addr}{n:Nat}{xs:List α}
  (hE:∀b o x,E W b o x→E w b o x) (h:Zce E size W a n xs):Zce E size w a n xs:=
 ⟨h.1,fun i x hx=>let ⟨b,off,h1,h2⟩:=h.2 i x hx;⟨b,off,h1,hE _ _ _ h2⟩⟩
theorem Zce.at {α:Type}{E:World→Nat→Nat→α→Prop}{size:Nat}{w:World}{a:Option Addr}{n:Nat}{xs:List α}
  (h:Zce E size w a n xs) {i:Nat} (hi:i<n):∃x b off,xs[i]? =some x∧a=some ⟨b,off,none⟩∧E w b (off+i*size) x:=by
 have hi':i<xs.length:=by rw[h.1];exact hi
 obtain⟨b,off,h1,h2⟩:=h.2 i xs[i] (zge hi')
 exact⟨xs[i],b,off,zge hi',h1,h2⟩
section
variable {P:Program} {w:World}
theorem Zas {ops:Array Oper}{rest:List Oper}{o:Oper}{a:Act}{Q:Exit→Act→World→Prop}(hgd:o.guard=none)(s x:Operand)(t:TypeId)
  (ho:o.op=.call {callee:=.builtin .append,args:=#[s,x],argTypes:=#[t,t]})
  (base:Nat) (e:TypeId) (i:TypeInfo) (z:Value) (size bytes:Nat) (ht:P.underlying t=some (.slice e)) (hi:P.info? e=some i) (hz:i.zero=some z)
  (hsize:i.size=size) (hby:i.bytes=bytes) (hzs:z.cells.size=size) (hsz:0<size)
  (v:Value) (n:Nat) (xs:List Value) (hs:a.eval s=v) (hown:w.ownsRow base e size v n xs)
  (aa:Option Addr) (m c:Nat) (news:List Value) (hx:a.eval x=.slice aa m c) (hnil:aa=none→m=0∧c=0) (hl:news.length=m*size)
  (hnews:∀ad,aa=some ad→∀j u,news[j]? =some u→w.cell? (ad.add j)=some u) (h1:∀u∈news,u.oneCell'=true)
  (h63:n+m≤maxLen) (hbytes:(n+m)*bytes≤140737488355328) (hbase:base≤w.heap.size)
  (h:∀v' w',w'.ownsRow base e size v' (n+m) (xs++news)→w.grownBy w' v.ownBlock→wpList P ops Q rest (a.put o.dst v') w'):wpList P ops Q (o::rest) a w:=by
 cases aa with
 |none=>
  obtain⟨rfl,rfl⟩:=hnil rfl
  obtain rfl:news=[]:=List.eq_nil_of_length_eq_zero (by simpa using hl)
  refine wpList_append_own_none hgd s x t ho base e i size ht hi v n xs hs hown hx (h v w (by simpa using hown) ⟨rfl,rfl,rfl,Nat.le_refl _,fun _ _ _=>rfl⟩)
 |some ad=>
  exact wpList_append_own w hgd s x t ho base e i z size bytes ht hi hz hsize hby hzs hsz v n xs hs hown ad m c news hx hl (hnews ad rfl) h1 h63 hbytes hbase fun v' w' h2 h3 _=>h v' w' h2 h3
end
structure Zah (S:Nat→Prop)(w w':World):Prop where
 os:w'.os=w.os
 tape:w'.tape=w.tape
 output:w'.output=w.output
 size:w.heap.size≤w'.heap.size
 block:∀b,b<w.heap.size→¬S b→w'.heap[b]? =w.heap[b]?
theorem Zah.refl (S:Nat→Prop)(w:World):Zah S w w:=⟨rfl,rfl,rfl,Nat.le_refl _,fun _ _ _=>rfl⟩
theorem Zah.ext {S:Nat→Prop}{w x y:World}(h:Zah S w x)(e:Ext x y):Zah S w y:=
 ⟨e.os.trans h.os,e.tape.trans h.tape,e.output.trans h.output,Nat.le_trans h.size e.size,fun b hb hn=>(e.block b (Nat.lt_of_lt_of_le hb h.size)).trans (h.block b hb hn)⟩
theorem Zah.grown {S:Nat→Prop}{w x y:World}{r:Option Nat}(h:Zah S w x)(g:x.grownBy y r)(hr:∀b,r=some b→S b∨w.heap.size≤b):Zah S w y:=
 ⟨g.os.trans h.os,g.tape.trans h.tape,g.output.trans h.output,Nat.le_trans h.size g.size,fun b hb hn=>(g.block b (Nat.lt_of_lt_of_le hb h.size) (fun e=>by
  rcases hr b e.symm with h1|h1
  ·exact hn h1
  ·omega)).trans (h.block b hb hn)⟩
theorem Zah.alloc {S:Nat→Prop}{w x:World}(h:Zah S w x)(o:Obj):Zah S w (x.alloc o):=h.ext (Zab zbr o)
theorem Zah.set {S:Nat→Prop}{w x:World}(h:Zah S w x){b:Nat}(hb:S b∨w.heap.size≤b)(j:Nat)(v:Value):Zah S w (x.setCell ⟨b,j,none⟩ v):=
 h.grown (r:=some b) ⟨rfl,rfl,rfl,by simp,fun k _ hk=>heap_setCell_other x ⟨b,j,none⟩ k v (fun e=>hk (congrArg some e))⟩ (fun b' e=>by cases e;exact hb)
theorem Zah.own {S:Nat→Prop}{w x:World}(h:Zah S w x){base n size:Nat}{e:TypeId}{v:Value}{xs:List Value}(ho:w.ownsRow base e size v n xs)(hs:∀b,v.ownBlock=some b→¬S b):x.ownsRow base e size v n xs:=by
 refine⟨ho.1,?_⟩
 rcases ho.2 with h1|⟨g,cap,cur,rfl,hb,hg,h3⟩
 ·exact .inl h1
 ·have hlt:g<w.heap.size:=by
   rcases Nat.lt_or_ge g w.heap.size with hl|hl
   ·exact hl
   ·rw[Array.getElem?_eq_none hl] at hg;cases hg
  exact .inr ⟨g,cap,cur,rfl,hb,(h.block g hlt (hs g rfl)).trans hg,h3⟩
theorem Zah.trans {S:Nat→Prop}{w x y:World}(h:Zah S w x)(k:Zah S x y):Zah S w y:=
 ⟨k.os.trans h.os,k.tape.trans h.tape,k.output.trans h.output,Nat.le_trans h.size k.size,fun b hb hn=>(k.block b (Nat.lt_of_lt_of_le hb h.size) hn).trans (h.block b hb hn)⟩
theorem Zah.mono {S T:Nat→Prop}{w x:World}(h:Zah S w x)(hs:∀b,b<w.heap.size→S b→T b):Zah T w x:=
 ⟨h.os,h.tape,h.output,h.size,fun b hb hn=>h.block b hb (fun hS=>hn (hs b hb hS))⟩
theorem Zah.cell {S:Nat→Prop}{w x:World}(h:Zah S w x){b o:Nat}{v:Value}(hb:¬S b)(hc:w.cell? ⟨b,o,none⟩=some v):x.cell? ⟨b,o,none⟩=some v:=by
 rw[←hc]
 exact World.cell?_of_block (h.block b (World.block_lt_of_cell? w ⟨b,o,none⟩ hc) hb)
theorem ZrM {w:World}{base n size cap:Nat}{e:TypeId}{a:Option Addr}{xs:List Value}(h:w.ownsRow base e size (.slice a n cap) n xs):∃g,(∀b,(Value.slice a n cap).ownBlock=some b→b=g)∧(∀b,a=some ⟨b,0,none⟩→b=g)∧Came w size a g 0 n cap xs:=by
 rcases h.2 with⟨h1,h0⟩|⟨g,c',cur,hv,hb,hg,hnc,hcm,hcs,ht⟩
 ·cases h1
  have k1:∀b,(Value.slice none 0 0).ownBlock=some b→b=0:=by intro b e;cases e
  have k2:∀b,(none:Option Addr)=some ⟨b,0,none⟩→b=0:=by intro b e;cases e
  refine⟨0,k1,k2,⟨Nat.le_refl _,fun h=>absurd h (Nat.lt_irrefl _),fun h=>absurd h (Nat.lt_irrefl _),h.1,fun j u hu=>?_,fun j hj=>?_⟩⟩
  ·have:=(zgs hu).1
   have:=h.1
   omega
  ·simp at hj
 ·cases hv
  have k1:∀b,(Value.slice (some ⟨g,0,none⟩) n cap).ownBlock=some b→b=g:=by intro b e;cases e;rfl
  have k2:∀b,(some ⟨g,0,none⟩:Option Addr)=some ⟨b,0,none⟩→b=g:=by intro b e;cases e;rfl
  refine⟨g,k1,k2,⟨hnc,fun _=>rfl,fun _=>(h.lt g rfl).2,h.1,fun j u hu=>?_,fun j hj=>?_⟩⟩
  ·have:=h.cells (g:=g) rfl j u hu
   rw[Addr.add_lit] at this
   exact this
  ·have hj':0+n*size+j<cur.size:=by
    rw[hcs]
    have:(cap-n)*size=cap*size-n*size:=Nat.sub_mul _ _ _
    omega
   refine⟨?_,?_⟩
   ·simp[World.cell?,hg]
    omega
   ·simp[World.frozen?,hg]
theorem Zhz {P:Program}(w:World)(t ty:TypeId)(base:Nat)(e:TypeId)(i:TypeInfo)(z:Value)(size bytes:Nat)(ht:P.underlying t=some (.slice e))(hi:P.info? e=some i)(hz:i.zero=some z)(hsize:i.size=size)(hby:i.bytes=bytes)(hzs:z.cells.size=size)(hsz:0<size)
  (a:Option Addr) (n cap:Nat) (xs:List Value) (hown:w.ownsRow base e size (.slice a n cap) n xs)
  (ad:Addr) (c:Nat) (news:List Value) (hl:news.length=size) (hnews:∀j u,news[j]? =some u→w.cell? (ad.add j)=some u) (h1:∀u∈news,u.oneCell'=true) (h63:n+1≤maxLen) (hbytes:(n+1)*bytes≤140737488355328) (hbase:base≤w.heap.size):
  ∃g cap' w',(Builtin.append_ #[t,t] ty #[.slice a n cap,.slice (some ad) 1 c]).run P w=.ok (.slice (some ⟨g,0,none⟩) (n+1) cap') w'∧w'.ownsRow base e size (.slice (some ⟨g,0,none⟩) (n+1) cap') (n+1) (xs++news)∧w.grownBy w' (Value.slice a n cap).ownBlock∧((Value.slice a n cap).ownBlock=some g∨g=w.heap.size)∧
   ∀b o u,a=some ⟨b,0,none⟩→o<n*size→w.cell? ⟨b,o,none⟩=some u→w'.cell? ⟨b,o,none⟩=some u:=by
 obtain⟨g0,_,hg0,hc⟩:=ZrM hown
 obtain⟨g,cap',w',hr,r1,r2,r3,_⟩:=run_append_lies (P:=P) w t ty base e i z size bytes ht hi hz hsize hby hzs hsz (.slice a n cap) n xs hown ad 1 c news (by rw[hl,Nat.one_mul]) hnews h1 Nat.zero_lt_one h63 hbytes hbase w.heap.size rfl
 obtain⟨v2,w2,hr2,ho⟩:=run_append_onto (P:=P) hc t ty i z bytes ht hi hz hsize hby hzs hsz (Onto.start hc) ad c news (by rw[hl,Nat.one_mul]) hnews h1 (by simpa using h63) (by simpa using hbytes)
 rw[hr] at hr2
 cases hr2
 refine⟨g,cap',w',hr,r1,r2,r3,fun b o u hb ho2 hcell=>?_⟩
 have hlt:=World.block_lt_of_cell? w ⟨b,o,none⟩ hcell
 rw[←hcell]
 refine ho.old hlt fun j hj1 hj2=>?_
 rintro⟨_,h2⟩
 omega
theorem ZcA {P:Program}(w:World){ops:Array Oper}{rest:List Oper}{o:Oper}{a:Act}{Q:Exit→Act→World→Prop}(hgd:o.guard=none)(s x:Operand)(t:TypeId)
  (ho:o.op=.call {callee:=.builtin .append,args:=#[s,x],argTypes:=#[t,t]})
  (base:Nat) (e:TypeId) (i:TypeInfo) (z:Value) (size bytes:Nat) (ht:P.underlying t=some (.slice e)) (hi:P.info? e=some i) (hz:i.zero=some z) (hsize:i.size=size) (hby:i.bytes=bytes) (hzs:z.cells.size=size) (hsz:0<size)
  (av:Option Addr) (n cap:Nat) (xs:List Value) (hs:a.eval s=.slice av n cap) (hown:w.ownsRow base e size (.slice av n cap) n xs)
  (ad:Addr) (c:Nat) (news:List Value) (hx:a.eval x=.slice (some ad) 1 c) (hl:news.length=size) (hnews:∀j u,news[j]? =some u→w.cell? (ad.add j)=some u) (h1:∀u∈news,u.oneCell'=true) (h63:n+1≤maxLen) (hbytes:(n+1)*bytes≤140737488355328) (hbase:base≤w.heap.size)
  (h:∀g cap' w',w'.ownsRow base e size (.slice (some ⟨g,0,none⟩) (n+1) cap') (n+1) (xs++news)→w.grownBy w' (Value.slice av n cap).ownBlock→((Value.slice av n cap).ownBlock=some g∨g=w.heap.size)→
   (∀b o u,av=some ⟨b,0,none⟩→o<n*size→w.cell? ⟨b,o,none⟩=some u→w'.cell? ⟨b,o,none⟩=some u)→wpList P ops Q rest (a.put o.dst (.slice (some ⟨g,0,none⟩) (n+1) cap')) w'):wpList P ops Q (o::rest) a w:=by
 refine wpList_plain hgd fun K hK'=>?_
 obtain⟨g,cap',w',hrun,r1,r2,r3,r4⟩:=Zhz (P:=P) w t o.type base e i z size bytes ht hi hz hsize hby hzs hsz av n cap xs hown ad c news hl hnews h1 h63 hbytes hbase
 unfold Oper.wp
 simp[execOp,ho,resolve,invoke,builtin,hs,hx,hrun,Result.andThen]
 exact hK' _ _ (h g cap' w' r1 r2 r3 r4)
theorem Zaw {w x z:World}{S:Nat→Prop}(h1:Ext w x)(h2:Zah S x z)(hs:∀b,b<w.heap.size→¬S b):Ext w z:=
 ⟨h2.os.trans h1.os,h2.tape.trans h1.tape,h2.output.trans h1.output,Nat.le_trans h1.size h2.size,fun i hi=>(h2.block i (Nat.lt_of_lt_of_le hi h1.size) (hs i hi)).trans (h1.block i hi)⟩
theorem Zgt (w:World)(u:Value)(t:TypeId):∀j x,[u][j]? =some x→(w.alloc (.cells #[u] t)).cell? ((⟨w.heap.size,0,none⟩:Addr).add j)=some x:=by
 intro j x hx
 rw[Addr.add_lit,World.cell?_alloc_new,Nat.zero_add]
 simpa using hx
end Go.Proofs.YtjfbjjmiobgjfaaGreat
namespace Go.Proofs.YtjfbjjmiobgjfaaGreat.K
instance:LawfulBEq ByteArray where
 eq_of_beq:=by
  intro a b h
  obtain⟨x⟩:=a
  obtain⟨y⟩:=b
  have h':(x==y)=true:=h
  rw[beq_iff_eq.1 h']
 rfl:=by
  intro a
  obtain⟨x⟩:=a
  show (x==x)=true
  simp
structure ZaG where
 kind:Int
 text:ByteArray
 deriving DecidableEq
structure Zda where
 pred:ByteArray
 terms:List ZaG
 deriving DecidableEq
structure Lit where
 kind:Int
 atom:Zda
 op:Int
 left:ZaG
 right:ZaG
 deriving DecidableEq
structure ZaQ where
 head:Zda
 body:List Lit
 deriving DecidableEq
end Go.Proofs.YtjfbjjmiobgjfaaGreat.K
namespace Go.Proofs.YtjfbjjmiobgjfaaGreat.K
open Go.RowKit
def Zbw (w:World)(b o:Nat)(t:ZaG):Prop:=
 w.cell? ⟨b,o,none⟩=some (.int .i64 t.kind)∧w.cell? ⟨b,o+1,none⟩=some (.string t.text)∧t.text.size≤maxLen
theorem Zbw.keep {W w:World}(hb:Ext W w){b o:Nat}{t:ZaG}(h:Zbw W b o t):Zbw w b o t:=
 ⟨YtjfbjjmiobgjfaaGreat.Zac hb h.1,YtjfbjjmiobgjfaaGreat.Zac hb h.2.1,h.2.2⟩
def Zaq (w:World)(a:Option Addr)(n:Nat)(ts:List ZaG):Prop:=n≤5864062014634∧Zce Zbw 2 w a n ts
theorem Zaq.keep {W w:World}(hb:Ext W w){a:Option Addr}{n:Nat}{ts:List ZaG}(h:Zaq W a n ts):Zaq w a n ts:=
 ⟨h.1,h.2.keep fun _ _ _=>Zbw.keep hb⟩
def Zcm (w:World)(b o:Nat)(l:Lit):Prop:=
 ∃(a:Option Addr) (n cap:Nat),w.cell? ⟨b,o,none⟩=some (.int .i64 l.kind)∧w.cell? ⟨b,o+1,none⟩=some (.string l.atom.pred)∧
  w.cell? ⟨b,o+2,none⟩=some (.slice a n cap)∧w.cell? ⟨b,o+3,none⟩=some (.int .i64 l.op)∧
  w.cell? ⟨b,o+4,none⟩=some (.int .i64 l.left.kind)∧w.cell? ⟨b,o+5,none⟩=some (.string l.left.text)∧
  w.cell? ⟨b,o+6,none⟩=some (.int .i64 l.right.kind)∧w.cell? ⟨b,o+7,none⟩=some (.string l.right.text)∧
  Zaq w a n l.atom.terms∧ZgM a n cap∧l.atom.pred.size≤maxLen∧l.left.text.size≤maxLen∧l.right.text.size≤maxLen
theorem Zcm.keep {W w:World}(hb:Ext W w){b o:Nat}{l:Lit}(h:Zcm W b o l):Zcm w b o l:=by
 obtain⟨a,n,cap,h0,h1,h2,h3,h4,h5,h6,h7,h8,h9⟩:=h
 exact⟨a,n,cap,YtjfbjjmiobgjfaaGreat.Zac hb h0,YtjfbjjmiobgjfaaGreat.Zac hb h1,YtjfbjjmiobgjfaaGreat.Zac hb h2,YtjfbjjmiobgjfaaGreat.Zac hb h3,YtjfbjjmiobgjfaaGreat.Zac hb h4,YtjfbjjmiobgjfaaGreat.Zac hb h5,YtjfbjjmiobgjfaaGreat.Zac hb h6,YtjfbjjmiobgjfaaGreat.Zac hb h7,h8.keep hb,h9⟩
def Zbl (w:World)(a:Option Addr)(n:Nat)(ls:List Lit):Prop:=n≤1353245080303∧Zce Zcm 8 w a n ls
theorem Zbl.keep {W w:World}(hb:Ext W w){a:Option Addr}{n:Nat}{ls:List Lit}(h:Zbl W a n ls):Zbl w a n ls:=
 ⟨h.1,h.2.keep fun _ _ _=>Zcm.keep hb⟩
structure ZaR (w:World)(r:ZaQ)(ah:Option Addr)(nh ch:Nat)(ab:Option Addr)(nb cb:Nat):Prop where
 pred:r.head.pred.size≤maxLen
 terms:Zaq w ah nh r.head.terms
 body:Zbl w ab nb r.body
 hcap:ZgM ah nh ch
 bcap:ZgM ab nb cb
theorem ZaR.keep {W w:World}(hb:Ext W w){r:ZaQ}{ah:Option Addr}{nh ch:Nat}{ab:Option Addr}{nb cb:Nat}(h:ZaR W r ah nh ch ab nb cb):ZaR w r ah nh ch ab nb cb:=
 ⟨h.pred,h.terms.keep hb,h.body.keep hb,h.hcap,h.bcap⟩
def Ze1 (k:Int)(s:ByteArray)(k':Int)(s':ByteArray):Bool:=decide (k=k'∧s=s')
theorem Zmi (t t':ZaG):Ze1 t.kind t.text t'.kind t'.text=decide (t=t'):=by
 obtain⟨k,s⟩:=t
 obtain⟨k',s'⟩:=t'
 simp[Ze1]
theorem ZpB (k k':Int)(s s':ByteArray)(w:World):(binOp .eql 64 (.agg #[.int .i64 k,.string s]) (.agg #[.int .i64 k',.string s'])).run Tryz.prog w=.ok (.bool (Ze1 k s k' s')) w:=by
 have e:=Zby s s'.toList
 have e2:(⟨s'.toList.toArray⟩:ByteArray)=s':=((Zby s' s'.toList).1 rfl).symm
 rw[e2] at e
 simp only[go_sem]
 simp[go_sem]
 by_cases h:k=k' <;> by_cases h2:s=s' <;> simp[Ze1,h,h2,e]
theorem Zlg (k k':Int)(s s':ByteArray)(w:World):(binOp .neq 64 (.agg #[.int .i64 k,.string s]) (.agg #[.int .i64 k',.string s'])).run Tryz.prog w=.ok (.bool (!Ze1 k s k' s')) w:=by
 have e:=Zby s s'.toList
 have e2:(⟨s'.toList.toArray⟩:ByteArray)=s':=((Zby s' s'.toList).1 rfl).symm
 rw[e2] at e
 simp only[go_sem]
 simp[go_sem]
 by_cases h:k=k' <;> by_cases h2:s=s' <;> simp[Ze1,h,h2,e]
