/- Rules in memory of their own, with marks behind their lists: what lentRule hands back. -/
import Derived.Test.YtjfbjjmiobgjfaaGreatG43
set_option maxRecDepth 100000
set_option maxHeartbeats 8000000
namespace Go.Proofs.YtjfbjjmiobgjfaaGreat
open ChangeShapes WideShapes ChangeAt RowKit
open K (ZaG Zda ZaQ Zaq Zbl ZaR Zbw Zcm)
def Zc8 (ts:List ZaG):List Value:=ts.flatMap fun t=>[.int .i64 t.kind,.string t.text]
theorem Zhn (ts:List ZaG):(Zc8 ts).length=ts.length*2:=by
 induction ts with
 |nil=>rfl
 |cons t ts ih=>simp only[Zc8,List.flatMap_cons,List.length_append,List.length_cons,List.length_nil] at ih ⊢;omega
theorem ZjU (a b:List ZaG):Zc8 (a++b)=Zc8 a++Zc8 b:=by simp[Zc8]
theorem ZjV (ts:List ZaG):∀u∈Zc8 ts,u.oneCell'=true:=by
 intro u hu
 obtain⟨t,_,h⟩:=List.mem_flatMap.1 hu
 simp at h
 rcases h with rfl|rfl <;> rfl
theorem Zfz (ts:List ZaG)(i:Nat)(t:ZaG)(h:ts[i]? =some t):(Zc8 ts)[i*2]? =some (.int .i64 t.kind)∧(Zc8 ts)[i*2+1]? =some (.string t.text):=by
 induction ts generalizing i with
 |nil=>simp at h
 |cons a ts ih=>
  cases i with
  |zero=>simp at h;subst h;simp[Zc8]
  |succ i=>
   have:=ih i (by simpa using h)
   have e:(Zc8 (a::ts))=[.int .i64 a.kind,.string a.text]++Zc8 ts:=by simp[Zc8]
   rw[e,show (i+1)*2=i*2+2 by omega,show i*2+2+1=(i*2+1)+2 by omega]
   simpa using this
theorem Zm2 {w:World}{a:Option Addr}{n:Nat}{ts:List ZaG}(h:Zaq w a n ts){ad:Addr}(ha:a=some ad):∀j u,(Zc8 ts)[j]? =some u→w.cell? (ad.add j)=some u:=by
 intro j u hu
 have hj:=(zgs hu).1
 rw[Zhn] at hj
 have hi:j/2<ts.length:=by omega
 obtain⟨b,off,e,h1,h2,_⟩:=h.2.2 (j/2) ts[j/2] (zge hi)
 rw[ha] at e
 cases e
 obtain⟨g1,g2⟩:=Zfz ts (j/2) _ (zge hi)
 rw[Addr.add_lit]
 rcases Nat.mod_two_eq_zero_or_one j with hm|hm
 ·have e:j/2*2=j:=by omega
  rw[e] at g1 h1
  rw[g1] at hu
  cases hu
  exact h1
 ·have e:j/2*2+1=j:=by omega
  rw[e] at g2
  have e2:off+j/2*2+1=off+j:=by omega
  rw[e2] at h2
  rw[g2] at hu
  cases hu
  exact h2
theorem ZjW {w:World}{base n cap m:Nat}{g:Nat}{ts rest:List ZaG}(h:w.ownsRow base 64 2 (.slice (some ⟨g,0,none⟩) m cap) m (Zc8 (ts++rest)))(hn:ts.length=n)(hb:n≤5864062014634)(hs:∀t∈ts,t.text.size≤maxLen):Zaq w (some ⟨g,0,none⟩) n ts:=by
 refine⟨hb,hn,fun i t ht=>⟨g,0,rfl,?_,?_,hs t (zmg ht)⟩⟩
 ·obtain⟨g1,_⟩:=Zfz (ts++rest) i t (by rw[List.getElem?_append_left (zgs ht).1];exact ht)
  have:=h.cells (g:=g) rfl _ _ g1
  rw[Addr.add_lit] at this
  exact this
 ·obtain⟨_,g2⟩:=Zfz (ts++rest) i t (by rw[List.getElem?_append_left (zgs ht).1];exact ht)
  have:=h.cells (g:=g) rfl _ _ g2
  rw[Addr.add_lit] at this
  rw[Nat.add_assoc]
  exact this
theorem ZfA {w:World}{a:Option Addr}{n:Nat}{ts:List ZaG}(h:Zaq w a n ts):∀t∈ts,t.text.size≤maxLen:=by
 intro t ht
 obtain⟨i,hi,rfl⟩:=List.getElem_of_mem ht
 obtain⟨_,_,_,_,_,h3⟩:=h.2.2 i _ (zge hi)
 exact h3
def ZiV:ZaG:=⟨-7,⟨#[]⟩⟩
def ZfB (w:World)(base:Nat)(ts:List ZaG)(g cap:Nat):Prop:=
 w.ownsRow base 64 2 (.slice (some ⟨g,0,none⟩) (ts.length+1) cap) (ts.length+1) (Zc8 (ts++[ZiV]))∧ts.length+1≤cap
theorem Zo7:(Tryz.prog.info? 64).map (fun i=>(i.zero,i.size,i.bytes))=some (some (.agg #[.int .i64 0,.string ⟨#[]⟩]),2,24):=by kernel_rfl
theorem Zo8 (w:World):∀ad,some (⟨w.heap.size,0,none⟩:Addr)=some ad→∀j u,(Zc8 [ZiV])[j]? =some u→(w.alloc (.cells #[.int .i64 (-7),.string ⟨#[]⟩] 64)).cell? (ad.add j)=some u:=by
 intro ad e j u hu
 cases e
 have hj:=(zgs hu).1
 rw[Zhn] at hj
 simp at hj
 rw[Addr.add_lit,World.cell?_alloc_new]
 match j,hj with
 |0,_=>simpa [Zc8,ZiV] using hu
 |1,_=>simpa [Zc8,ZiV] using hu
def ZbG (p:K.Lit×Nat×Nat):List Value:=
 [.int .i64 p.1.kind,.string p.1.atom.pred,.slice (some ⟨p.2.1,0,none⟩) p.1.atom.terms.length p.2.2,.int .i64 p.1.op,.int .i64 p.1.left.kind,.string p.1.left.text,.int .i64 p.1.right.kind,.string p.1.right.text]
def Zgw (ps:List (K.Lit×Nat×Nat)):List Value:=ps.flatMap ZbG
def Zo9:List Value:=[.int .i64 (-7),.string ⟨#[]⟩,.slice none 0 0,.int .i64 0,.int .i64 0,.string ⟨#[]⟩,.int .i64 0,.string ⟨#[]⟩]
theorem ZfC (ps:List (K.Lit×Nat×Nat)):(Zgw ps).length=ps.length*8:=by
 induction ps with
 |nil=>rfl
 |cons t ts ih=>simp only[Zgw,ZbG,List.flatMap_cons,List.length_append,List.length_cons,List.length_nil] at ih ⊢;omega
theorem Zm3 (ps:List (K.Lit×Nat×Nat))(p:K.Lit×Nat×Nat):Zgw (ps++[p])=Zgw ps++ZbG p:=by simp[Zgw]
theorem ZjX (ps:List (K.Lit×Nat×Nat))(i j:Nat)(p:K.Lit×Nat×Nat)(h:ps[i]? =some p)(hj:j<8):(Zgw ps)[i*8+j]? =(ZbG p)[j]?:=by
 induction ps generalizing i with
 |nil=>simp at h
 |cons a ts ih=>
  have e:Zgw (a::ts)=ZbG a++Zgw ts:=rfl
  cases i with
  |zero=>
   simp at h
   subst h
   rw[e,Nat.zero_mul,Nat.zero_add,List.getElem?_append_left (by simpa [ZbG] using hj)]
  |succ i=>
   rw[e,show (i+1)*8+j=(i*8+j)+8 by omega,List.getElem?_append_right (by simp[ZbG]),show (i*8+j)+8-(ZbG a).length=i*8+j by simp[ZbG]]
   exact ih i (by simpa using h)
theorem ZjY {w:World}{g:Nat}(u0 u1 u2 u3 u4 u5 u6 u7:Value)(t:TypeId)(hg:g=w.heap.size):∀ad,some (⟨g,0,none⟩:Addr)=some ad→∀j u,[u0,u1,u2,u3,u4,u5,u6,u7][j]? =some u→(w.alloc (.cells #[u0,u1,u2,u3,u4,u5,u6,u7] t)).cell? (ad.add j)=some u:=by
 intro ad e j u hu
 cases e
 subst hg
 rw[Addr.add_lit,World.cell?_alloc_new,Nat.zero_add]
 simpa using hu
def Zu9 (w:World)(base:Nat)(ps:List (K.Lit×Nat×Nat))(g cap:Nat):Prop:=
 w.ownsRow base 66 8 (.slice (some ⟨g,0,none⟩) (ps.length+1) cap) (ps.length+1) (Zgw ps++Zo9)∧ps.length+1≤cap
def ZkV (w:World)(base:Nat)(ps:List (K.Lit×Nat×Nat)):Prop:=∀p∈ps,ZfB w base p.1.atom.terms p.2.1 p.2.2
structure Zpa (w:World)(base:Nat)(r:ZaQ)(gh ch gb cb:Nat):Prop where
 head:ZfB w base r.head.terms gh ch
 body:∃ps,ps.map (·.1)=r.body∧Zu9 w base ps gb cb∧ZkV w base ps
theorem ZfB.mono {w:World}{base base':Nat}{ts:List ZaG}{g c:Nat}(h:ZfB w base ts g c)(hb:base'≤base):ZfB w base' ts g c:=⟨Zao h.1 hb,h.2⟩
theorem ZfB.ext {w w':World}{base:Nat}{ts:List ZaG}{g c:Nat}(h:ZfB w base ts g c)(hb:Ext w w'):ZfB w' base ts g c:=
 ⟨h.1.kept (ZgN hb none) (by simp[Value.ownBlock]),h.2⟩
theorem ZfB.gb {w w':World}{base b2 s2 n2:Nat}{v2:Value}{x2:List Value}{ts:List ZaG}{g c:Nat}(h:ZfB w base ts g c)(h2:w.ownsRow b2 66 s2 v2 n2 x2)(k:w.grownBy w' v2.ownBlock):ZfB w' base ts g c:=
 ⟨h.1.kept k (ZaK h.1 h2 (by decide)),h.2⟩
theorem ZfB.set {w:World}{base:Nat}{ts:List ZaG}{g c:Nat}(h:ZfB w base ts g c){a:Addr}(ha:a.block<base)(u:Value):ZfB (w.setCell a u) base ts g c:=⟨ownsRow_setCell_below h.1 ha u,h.2⟩
theorem ZkV.ext {w w':World}{base:Nat}{ps:List (K.Lit×Nat×Nat)}(h:ZkV w base ps)(hb:Ext w w'):ZkV w' base ps:=fun p hp=>(h p hp).ext hb
theorem Zpa.rule {w0 w:World}{base:Nat}{r:ZaQ}{gh ch gb cb:Nat}{ah:Option Addr}{nh c1:Nat}{ab:Option Addr}{nb c2:Nat}(h:Zpa w base r gh ch gb cb)(hr:ZaR w0 r ah nh c1 ab nb c2):
  ZaR w r (some ⟨gh,0,none⟩) nh ch (some ⟨gb,0,none⟩) nb cb:=by
 obtain⟨ps,hps,hL,hT⟩:=h.body
 have hlen:ps.length=nb:=by rw[←hr.body.2.1,←hps,List.length_map]
 refine⟨hr.pred,ZjW (rest:=[ZiV]) h.head.1 hr.terms.2.1 hr.terms.1 (ZfA hr.terms),⟨hr.body.1,hr.body.2.1,fun i l hl=>⟨gb,0,rfl,?_⟩⟩,⟨by have:=h.head.2;rw[hr.terms.2.1] at this;omega,by intro h;cases h⟩,⟨by have:=hL.2;omega,by intro h;cases h⟩⟩
 have hi:i<ps.length:=by rw[hlen,←hr.body.2.1];exact(zgs hl).1
 obtain⟨p,hp⟩:∃p,ps[i]? =some p:=⟨_,zge hi⟩
 have hpl:p.1=l:=by
  have e:(ps.map (·.1))[i]? =some p.1:=by rw[List.getElem?_map,hp];rfl
  rw[hps,hl] at e
  exact(Option.some.inj e).symm
 obtain⟨_,_,_,a,n,cap,_,_,_,_,_,_,_,_,ht,_,hp1,hp2,hp3⟩:=hr.body.2.2 i l hl
 have C:∀j,j<8→w.cell? ⟨gb,0+i*8+j,none⟩=(ZbG p)[j]?:=by
  intro j hj
  have hjl:j<(ZbG p).length:=by simpa [ZbG] using hj
  have e:=ZjX ps i j p hp hj
  rw[zge hjl] at e ⊢
  have:=hL.1.cells (g:=gb) rfl (i*8+j) _ (by rw[List.getElem?_append_left (by rw[ZfC];omega)];exact e)
  rw[Addr.add_lit] at this
  rw[Nat.zero_add] at this ⊢
  exact this
 have o:=hT p (zmg hp)
 obtain⟨lp,g,c⟩:=p
 cases hpl
 refine⟨some ⟨g,0,none⟩,lp.atom.terms.length,c,C 0 (by omega),C 1 (by omega),C 2 (by omega),C 3 (by omega),C 4 (by omega),C 5 (by omega),C 6 (by omega),C 7 (by omega),ZjW (rest:=[ZiV]) o.1 rfl (by rw[ht.2.1];exact ht.1) (ZfA ht),⟨by have:=o.2;dsimp only at this;omega,by intro h;cases h⟩,hp1,hp2,hp3⟩
theorem ZqM:(Tryz.prog.info? 66).map (fun i=>(i.zero,i.size,i.bytes))=some (some (.agg #[.int .i64 0,.string ⟨#[]⟩,.slice none 0 0,.int .i64 0,.int .i64 0,.string ⟨#[]⟩,.int .i64 0,.string ⟨#[]⟩]),8,104):=by kernel_rfl
theorem Zl6 (ts:List ZaG)(aa:Option Addr)(n cap:Nat)(w:World)(ha:Zaq w aa n ts)(hc:ZgM aa n cap):
  Calls Tryz.prog 21 #[.slice aa n cap] w fun e w'=>∃g c,e=.returned (.slice (some ⟨g,0,none⟩) n c)∧ZfB w' w.heap.size ts g c∧Ext w w':=by
 have hn:=ha.1
 have HL:=zh ha.2.1
 have HC:=zh hc
 have HSRC:Hid (∀ad,aa=some ad→∀j u,(Zc8 ts)[j]? =some u→w.cell? (ad.add j)=some u):=fun ad e=>Zm2 ha e
 have HF:Hid ((Zc8 ts).length=n*2):=by show _=_;rw[Zhn,HL.out]
 have H3:Hid (0+n≤maxLen):=by show _≤_;unfold maxLen;omega
 have H4:Hid ((0+n)*24≤140737488355328):=by show _≤_;omega
 have K1:Hid ((0+n)+1≤maxLen):=by show _≤_;unfold maxLen;omega
 have K2:Hid (((0+n)+1)*24≤140737488355328):=by show _≤_;omega
 clear ha hc
 obtain⟨i0,hi,hz0,hz1,hz2⟩:=info_parts Zo7
 have q0:(0:Int)≤(n:Int):=by omega
 go_enter Tryz.func21,Tryz.ntmps21
 go_wp2_with (first|(at_builtin;refine Zas rfl _ _ 22 rfl w.heap.size 64 i0 (.agg #[.int .i64 0,.string ⟨#[]⟩]) 2 24 Tryz.underlying22 hi hz0 hz1 hz2 rfl (by decide) _ _ _ rfl (World.ownsRow_nil _ _ _ _) aa n cap (Zc8 ts) rfl HC.out.2 HF.out HSRC.out (ZjV _) H3.out H4.out (Nat.le_refl _) ?_;intro v1 w1 own1 g1)|(at_builtin;refine Zas rfl _ _ 22 rfl w.heap.size 64 i0 (.agg #[.int .i64 0,.string ⟨#[]⟩]) 2 24 Tryz.underlying22 hi hz0 hz1 hz2 rfl (by decide) _ _ _ rfl (own1.alloc _) (some ⟨w1.heap.size,0,none⟩) 1 1 (Zc8 [ZiV]) rfl (by intro h;cases h) rfl (Zo8 w1) (ZjV _) K1.out K2.out (Za3 g1.size) ?_;intro v2 w2 own2 g2;have hb2:Ext w w2:=Zaz (Zab (Zaz (Below.refl _ w:Ext w w) g1 (by intro g e;cases e)) _) g2 (fun g e=>(own1.lt g e).1);have HB2:=zh hb2;clear hb2;obtain⟨g,c2,rfl,hc2⟩:=Za0 own2 (Nat.succ_pos _);have hc3:(n:Int)≤(c2:Int):=by omega))
 go_returns
 refine⟨g,c2,rfl,⟨?_,?_⟩,HB2.out⟩
 ·rw[HL.out,ZjU];simpa using own2
 ·rw[HL.out];omega
structure ZdX (w:World)(r:ZaQ)(ab:Option Addr)(nh nb cb gh ch':Nat)(k:Nat)(v:Value)(wj:World):Prop where
 ext:Ext w wj
 lt:w.heap.size+3≤wj.heap.size
 b2:wj.cell? ⟨w.heap.size,2,none⟩=some (.slice ab nb cb)
 z0:wj.cell? ⟨w.heap.size+1,0,none⟩=some (.string ⟨#[]⟩)
 z1:wj.cell? ⟨w.heap.size+1,1,none⟩=some (.slice none 0 0)
 z2:wj.cell? ⟨w.heap.size+1,2,none⟩=some (.slice none 0 0)
 zf:∀j,wj.frozen? ⟨w.heap.size+1,j,none⟩=false
 x0:wj.cell? ⟨w.heap.size+1+1,0,none⟩=some (.string r.head.pred)
 x1:wj.cell? ⟨w.heap.size+1+1,1,none⟩=some (.slice (some ⟨gh,0,none⟩) nh ch')
 x2:wj.cell? ⟨w.heap.size+1+1,2,none⟩=some v
 xf:∀j,wj.frozen? ⟨w.heap.size+1+1,j,none⟩=false
 head:ZfB wj (w.heap.size+3) r.head.terms gh ch'
 row:∃ps,ps.map (·.1)=r.body.take k∧wj.ownsRow (w.heap.size+3) 66 8 v k (Zgw ps)∧ZkV wj (w.heap.size+3) ps
section
variable {w:World} {r:ZaQ} {ab:Option Addr} {nh nb cb gh ch' k:Nat} {v:Value} {wj w':World}
theorem ZdX.up (h:ZdX w r ab nh nb cb gh ch' k v wj)(e:Ext wj w'):ZdX w r ab nh nb cb gh ch' k v w':=by
 obtain⟨ps,h1,h2,h3⟩:=h.row
 have hl:=h.lt
 exact⟨Zaa h.ext e,Nat.le_trans h.lt e.size,Zac e h.b2,Zac e h.z0,Zac e h.z1,Zac e h.z2,fun j=>(e.frozen (p:=⟨w.heap.size+1,j,none⟩) (by show w.heap.size+1<_;omega)).trans (h.zf j),Zac e h.x0,Zac e h.x1,Zac e h.x2,fun j=>(e.frozen (p:=⟨w.heap.size+1+1,j,none⟩) (by show w.heap.size+1+1<_;omega)).trans (h.xf j),h.head.ext e,ps,h1,Zar h2 e,h3.ext e⟩
theorem ZdX.put (h:ZdX w r ab nh nb cb gh ch' k v wj){v':Value}{k':Nat}{xs:List Value}(g:wj.grownBy w' v.ownBlock)(own:w'.ownsRow (w.heap.size+3) 66 8 v' k' xs):
  Ext w (w'.setCell ⟨w.heap.size+1+1,2,none⟩ v')∧(∀i,i≠w.heap.size+1+1→∀j u,i<w.heap.size+3→wj.cell? ⟨i,j,none⟩=some u→(w'.setCell ⟨w.heap.size+1+1,2,none⟩ v').cell? ⟨i,j,none⟩=some u)∧(∀j u,j≠2→wj.cell? ⟨w.heap.size+1+1,j,none⟩=some u→(w'.setCell ⟨w.heap.size+1+1,2,none⟩ v').cell? ⟨w.heap.size+1+1,j,none⟩=some u)∧(w'.setCell ⟨w.heap.size+1+1,2,none⟩ v').cell? ⟨w.heap.size+1+1,2,none⟩=some v'∧(∀i j,i<w.heap.size+3→(w'.setCell ⟨w.heap.size+1+1,2,none⟩ v').frozen? ⟨i,j,none⟩=wj.frozen? ⟨i,j,none⟩)∧(w'.setCell ⟨w.heap.size+1+1,2,none⟩ v').ownsRow (w.heap.size+3) 66 8 v' k' xs∧(∀ts g c,ZfB wj (w.heap.size+3) ts g c→ZfB (w'.setCell ⟨w.heap.size+1+1,2,none⟩ v') (w.heap.size+3) ts g c)∧w.heap.size+3≤(w'.setCell ⟨w.heap.size+1+1,2,none⟩ v').heap.size:=by
 obtain⟨ps,h1,h2,h3⟩:=h.row
 have hl:=h.lt
 have hgb:∀i,i<w.heap.size+3→w'.heap[i]? =wj.heap[i]?:=fun i hi=>g.block i (by omega) (fun e=>by have:=(h2.lt i e.symm).1;omega)
 have hb:∀i,i<w.heap.size+3→∀j u,wj.cell? ⟨i,j,none⟩=some u→w'.cell? ⟨i,j,none⟩=some u:=fun i hi j u hu=>(World.cell?_of_block (hgb i hi)).trans hu
 refine⟨Zal (Zaz h.ext g (fun b e=>by have:=(h2.lt b e).1;omega)) (by show w.heap.size≤w.heap.size+1+1;omega) _,fun i hi j u hl3 hu=>?_,fun j u hj hu=>?_,World.cell?_setCell_same _ _ _ (hb _ (by omega) _ _ h.x2),fun i j hi=>?_,ownsRow_setCell_below own (a:=⟨w.heap.size+1+1,2,none⟩) (by show w.heap.size+1+1<_;omega) _,fun ts g' c ht=>?_,by simp;have:=g.size;omega⟩
 ·rw[World.cell?_setCell_other _ _ _ _ (by intro e;injection e with e1;exact hi e1.symm)]
  exact hb i hl3 j u hu
 ·rw[World.cell?_setCell_other _ _ _ _ (by intro e;injection e with e1 e2;exact hj e2.symm)]
  exact hb _ (by omega) j u hu
 ·rw[World.frozen?_setCell]
  unfold World.frozen?
  simp only
  rw[hgb i hi]
 ·exact(ht.gb h2 g).set (a:=⟨w.heap.size+1+1,2,none⟩) (by show w.heap.size+1+1<_;omega) _
theorem ZdX.kept (h:ZdX w r ab nh nb cb gh ch' k v wj)(g:wj.grownBy w' v.ownBlock):w'.cell? ⟨w.heap.size+1+1,2,none⟩=some v∧w'.frozen? ⟨w.heap.size+1+1,2,none⟩=false:=by
 obtain⟨ps,h1,h2,h3⟩:=h.row
 have hl:=h.lt
 have e:w'.heap[w.heap.size+1+1]? =wj.heap[w.heap.size+1+1]?:=g.block _ (by omega) (fun e=>by have:=(h2.lt _ e.symm).1;omega)
 refine⟨(World.cell?_of_block e).trans h.x2,?_⟩
 have:=h.xf 2
 unfold World.frozen? at this ⊢
 simp only at this ⊢
 rw[e]
 exact this
theorem ZdX.push (h:ZdX w r ab nh nb cb gh ch' k v wj){l:K.Lit}{gx cx:Nat}(hl:r.body[k]? =some l)(ht:ZfB wj (w.heap.size+3) l.atom.terms gx cx){v':Value}(g:wj.grownBy w' v.ownBlock){ps:List (K.Lit×Nat×Nat)}(h1:ps.map (·.1)=r.body.take k)(h3:ZkV wj (w.heap.size+3) ps)(own:w'.ownsRow (w.heap.size+3) 66 8 v' (k+1) (Zgw ps++ZbG (l,gx,cx))):ZdX w r ab nh nb cb gh ch' (k+1) v' (w'.setCell ⟨w.heap.size+1+1,2,none⟩ v'):=by
 obtain⟨q1,q2,q3,q4,q5,q6,q7,q8⟩:=h.put g own
 refine⟨q1,q8,q2 _ (by omega) _ _ (by omega) h.b2,q2 _ (by omega) _ _ (by omega) h.z0,q2 _ (by omega) _ _ (by omega) h.z1,q2 _ (by omega) _ _ (by omega) h.z2,fun j=>(q5 _ j (by omega)).trans (h.zf j),q3 _ _ (by decide) h.x0,q3 _ _ (by decide) h.x1,q4,fun j=>(q5 _ j (by omega)).trans (h.xf j),q7 _ _ _ h.head,ps++[(l,gx,cx)],by rw[ZaA hl,List.map_append,h1];rfl,by rw[Zm3];exact q6,fun p hp=>?_⟩
 rcases List.mem_append.1 hp with hp|hp
 ·exact q7 _ _ _ (h3 p hp)
 ·cases List.mem_singleton.1 hp
  exact q7 _ _ _ ht
end
theorem set3 {w:World}{b:Nat}{u0 u1 u2:Value}(h0:w.cell? ⟨b,0,none⟩=some u0)(h1:w.cell? ⟨b,1,none⟩=some u1)(h2:w.cell? ⟨b,2,none⟩=some u2)(p q s:Value):
  (((w.setCell ⟨b,0,none⟩ p).setCell ⟨b,1,none⟩ q).setCell ⟨b,2,none⟩ s).cell? ⟨b,0,none⟩=some p∧(((w.setCell ⟨b,0,none⟩ p).setCell ⟨b,1,none⟩ q).setCell ⟨b,2,none⟩ s).cell? ⟨b,1,none⟩=some q∧(((w.setCell ⟨b,0,none⟩ p).setCell ⟨b,1,none⟩ q).setCell ⟨b,2,none⟩ s).cell? ⟨b,2,none⟩=some s:=by
 have a1:(w.setCell ⟨b,0,none⟩ p).cell? ⟨b,1,none⟩=some u1:=by rw[World.cell?_setCell_other];exact h1;simp
 have a2:((w.setCell ⟨b,0,none⟩ p).setCell ⟨b,1,none⟩ q).cell? ⟨b,2,none⟩=some u2:=by rw[World.cell?_setCell_other,World.cell?_setCell_other];exact h2;simp;simp
 refine⟨?_,?_,World.cell?_setCell_same _ _ _ a2⟩
 ·rw[World.cell?_setCell_other,World.cell?_setCell_other];exact World.cell?_setCell_same _ _ _ h0;simp;simp
 ·rw[World.cell?_setCell_other];exact World.cell?_setCell_same _ _ _ a1;simp
theorem Zm4 (r:ZaQ)(ah:Option Addr)(nh ch:Nat)(ab:Option Addr)(nb cb:Nat)(w:World)(hr:ZaR w r ah nh ch ab nb cb):
  Calls Tryz.prog 6 #[.agg #[.string r.head.pred,.slice ah nh ch,.slice ab nb cb]] w fun e w'=>∃gh ch' gb cb',e=.returned (.agg #[.string r.head.pred,.slice (some ⟨gh,0,none⟩) nh ch',.slice (some ⟨gb,0,none⟩) nb cb'])∧Zpa w' w.heap.size r gh ch' gb cb'∧Ext w w':=by
 have HR:=zh hr
 have HN:=zh hr.body.1
 have HL:=zh hr.body.2.1
 clear hr
 obtain⟨i0,hi,hz0,hz1,hz2⟩:=info_parts ZqM
 go_enter Tryz.func6,Tryz.ntmps6
 go_upto_region 2 with (fail)
 refine Zba (fun W hW=>?_)
 have hb0:Ext w W:=by rw[hW];go_grown
 have x0:W.cell? ⟨w.heap.size,0,none⟩=some (.string r.head.pred):=by rw[hW];go_simp
 have x1:W.cell? ⟨w.heap.size,1,none⟩=some (.slice ah nh ch):=by rw[hW];go_simp
 have x2:W.cell? ⟨w.heap.size,2,none⟩=some (.slice ab nb cb):=by rw[hW];go_simp
 have z0:W.cell? ⟨w.heap.size+1,0,none⟩=some (.string ⟨#[]⟩):=by rw[hW];go_simp
 have z1:W.cell? ⟨w.heap.size+1,1,none⟩=some (.slice none 0 0):=by rw[hW];go_simp
 have z2:W.cell? ⟨w.heap.size+1,2,none⟩=some (.slice none 0 0):=by rw[hW];go_simp
 have t0:W.cell? ⟨w.heap.size+1+1,0,none⟩=some (.string ⟨#[]⟩):=by rw[hW];go_simp
 have t1:W.cell? ⟨w.heap.size+1+1,1,none⟩=some (.slice none 0 0):=by rw[hW];go_simp
 have t2:W.cell? ⟨w.heap.size+1+1,2,none⟩=some (.slice none 0 0):=by rw[hW];go_simp
 have zf:∀j,W.frozen? ⟨w.heap.size+1,j,none⟩=false:=fun j=>by rw[hW];go_simp
 have tf:∀j,W.frozen? ⟨w.heap.size+1+1,j,none⟩=false:=fun j=>by rw[hW];go_simp
 have hsz:W.heap.size=w.heap.size+3:=by rw[hW];simp
 clear hW
 have tf0:=tf 0
 have MK:Hid (∀W1,Ext w W1→Calls Tryz.prog 21 #[.slice ah nh ch] W1 fun e w'=>∃g c,e=.returned (.slice (some ⟨g,0,none⟩) nh c)∧ZfB w' W1.heap.size r.head.terms g c∧Ext W1 w'):=fun W1 h=>Zl6 r.head.terms ah nh ch W1 (HR.out.terms.keep h) HR.out.hcap
 go_upto_region 3 with (fail)
 refine Zba (fun W1 hW1=>?_)
 have hb1:Ext w W1:=by rw[hW1];exact Zal hb0 (by show w.heap.size≤w.heap.size+1+1;omega) _
 have o1:∀i j u,(i=w.heap.size+1+1→j≠0)→W.cell? ⟨i,j,none⟩=some u→W1.cell? ⟨i,j,none⟩=some u:=fun i j u hn hu=>by
  rw[hW1,World.cell?_setCell_other _ _ _ _ (by intro e;injection e with e1 e2;exact hn e1.symm e2.symm)]
  exact hu
 have s0:W1.cell? ⟨w.heap.size+1+1,0,none⟩=some (.string r.head.pred):=by rw[hW1];exact World.cell?_setCell_same _ _ _ t0
 have y1:=o1 _ _ _ (by omega) x1
 have y2:=o1 _ _ _ (by omega) x2
 have v0:=o1 _ _ _ (by omega) z0
 have v1:=o1 _ _ _ (by omega) z1
 have v2:=o1 _ _ _ (by omega) z2
 have s1:=o1 _ _ _ (by omega) t1
 have s2:=o1 _ _ _ (by omega) t2
 have zf1:∀j,W1.frozen? ⟨w.heap.size+1,j,none⟩=false:=fun j=>by rw[hW1,World.frozen?_setCell];exact zf j
 have tf1:∀j,W1.frozen? ⟨w.heap.size+1+1,j,none⟩=false:=fun j=>by rw[hW1,World.frozen?_setCell];exact tf j
 have hsz1:W1.heap.size=w.heap.size+3:=by rw[hW1];simpa using hsz
 clear hW1 o1 x0 x1 x2 z0 z1 z2 t0 t1 t2 zf tf tf0
 go_upto_region 5 with (go_at_call 21;(with_reducible refine(MK.out _ hb1).mono ?_);rintro e w3 ⟨gh,ch',rfl,own3,e3⟩;have u1:=Zac e3 s1;have uf:=(e3.frozen (p:=⟨w.heap.size+1+1,1,none⟩) (by show w.heap.size+1+1<_;omega)).trans (tf1 1))
 refine Zba (fun W3 hW3=>?_)
 have ST:Hid (ZdX w r ab nh nb cb gh ch' 0 (.slice none 0 0) W3):=by
  have o3:∀i j u,(i=w.heap.size+1+1→j≠1)→W1.cell? ⟨i,j,none⟩=some u→W3.cell? ⟨i,j,none⟩=some u:=fun i j u hn hu=>by
   rw[hW3,World.cell?_setCell_other _ _ _ _ (by intro e;injection e with e1 e2;exact hn e1.symm e2.symm)]
   exact Zac e3 hu
  have fz:∀i j,i<w.heap.size+3→W3.frozen? ⟨i,j,none⟩=W1.frozen? ⟨i,j,none⟩:=fun i j hi=>by
   rw[hW3,World.frozen?_setCell]
   exact e3.frozen (p:=⟨i,j,none⟩) (by show i<_;omega)
  have z3:=e3.size
  refine⟨by rw[hW3];exact Zal (Zaa hb1 e3) (by show w.heap.size≤w.heap.size+1+1;omega) _,by rw[hW3];simp;omega,o3 _ _ _ (by omega) y2,o3 _ _ _ (by omega) v0,o3 _ _ _ (by omega) v1,o3 _ _ _ (by omega) v2,fun j=>(fz _ j (by omega)).trans (zf1 j),o3 _ _ _ (by omega) s0,by rw[hW3];exact World.cell?_setCell_same _ _ _ u1,o3 _ _ _ (by omega) s2,fun j=>(fz _ j (by omega)).trans (tf1 j),?_,[],by simp,World.ownsRow_nil _ _ _ _,fun p hp=>by cases hp⟩
  rw[hsz1] at own3
  rw[hW3]
  exact own3.set (a:=⟨w.heap.size+1+1,1,none⟩) (by show w.heap.size+1+1<_;omega) _
 clear hW3 own3 e3 u1 uf s0 s1 s2 y1 y2 v0 v1 v2 zf1 tf1 hb0 hb1 hsz hsz1 MK
 go_wp2
 go_loopw [4] (fun i wj=>∃(k:Nat) (v:Value),k≤nb∧i=.int .i64 (k:Int)∧ZdX w r ab nh nb cb gh ch' k v wj) (fun i _=>nb-(intOf i).toNat)
 case atStart=>exact⟨0,_,by omega,rfl,ST.out⟩
 case round=>
  obtain⟨k,v,hk,rfl,hst⟩:=hrel
  have HS:=zh hst
  have b2:=hst.b2
  have x2:=hst.x2
  have xf:=hst.xf 2
  clear hst
  by_cases hlt:k<nb
  ·have hki:(k:Int)<(nb:Int):=by omega
   obtain⟨l,bt,off,hx,rfl,a,n,cap,h0,h1,h2,h3,h4,h5,h6,h7,ht,hcap,hp,hl,hr⟩:=(HR.out.body).2.at hlt
   obtain rfl:n=l.atom.terms.length:=ht.2.1.symm
   have HX:=zh hx
   have g0:=Zac HS.out.ext h0
   have g1:=Zac HS.out.ext h1
   have g2:=Zac HS.out.ext h2
   have g3:=Zac HS.out.ext h3
   have g4:=Zac HS.out.ext h4
   have g5:=Zac HS.out.ext h5
   have g6:=Zac HS.out.ext h6
   have g7:=Zac HS.out.ext h7
   have MK:Hid (∀W1,Ext w W1→Calls Tryz.prog 21 #[.slice a l.atom.terms.length cap] W1 fun e w'=>∃g c,e=.returned (.slice (some ⟨g,0,none⟩) l.atom.terms.length c)∧ZfB w' W1.heap.size l.atom.terms g c∧Ext W1 w'):=fun W1 h=>Zl6 l.atom.terms a _ cap W1 (ht.keep h) hcap
   clear hx h0 h1 h2 h3 h4 h5 h6 h7 ht hcap
   go_upto_region 8 with (fail)
   refine Zba (fun Wi hWi=>?_)
   have hin:Ext wr Wi:=by rw[hWi];exact Zab zbr _
   have e0:Wi.cell? ⟨wr.heap.size,0,none⟩=some (.int .i64 l.kind):=by rw[hWi];go_simp
   have e1:Wi.cell? ⟨wr.heap.size,1,none⟩=some (.string l.atom.pred):=by rw[hWi];go_simp
   have e2:Wi.cell? ⟨wr.heap.size,2,none⟩=some (.slice a l.atom.terms.length cap):=by rw[hWi];go_simp
   have e3:Wi.cell? ⟨wr.heap.size,3,none⟩=some (.int .i64 l.op):=by rw[hWi];go_simp
   have e4:Wi.cell? ⟨wr.heap.size,4,none⟩=some (.int .i64 l.left.kind):=by rw[hWi];go_simp
   have e5:Wi.cell? ⟨wr.heap.size,5,none⟩=some (.string l.left.text):=by rw[hWi];go_simp
   have e6:Wi.cell? ⟨wr.heap.size,6,none⟩=some (.int .i64 l.right.kind):=by rw[hWi];go_simp
   have e7:Wi.cell? ⟨wr.heap.size,7,none⟩=some (.string l.right.text):=by rw[hWi];go_simp
   have v2:Wi.frozen? ⟨wr.heap.size,2,none⟩=false:=by rw[hWi];go_simp
   have hsi:wr.heap.size<Wi.heap.size:=World.block_lt_of_cell? _ _ e0
   have hsw:=HS.out.lt
   have HSI:=zh (HS.out.up hin)
   clear hWi g0 g1 g2 g3 g4 g5 g6 g7 b2 x2 xf
   go_upto_region 9 with (go_at_call 21;(with_reducible refine(MK.out _ HSI.out.ext).mono ?_);rintro e w3 ⟨gx,cx,rfl,hown3,hb3⟩;have m2:=Zac hb3 e2;have v2:=(hb3.frozen (p:=⟨wr.heap.size,2,none⟩) hsi).trans v2)
   refine Zba (fun W3 hW3=>?_)
   have dz:∀j u,j≠2→Wi.cell? ⟨wr.heap.size,j,none⟩=some u→W3.cell? ⟨wr.heap.size,j,none⟩=some u:=fun j u hj hu=>by
    rw[hW3,World.cell?_setCell_other _ _ _ _ (by intro e;injection e with e1 e2;exact hj e2.symm)]
    exact Zac hb3 hu
   have d2:W3.cell? ⟨wr.heap.size,2,none⟩=some (.slice (some ⟨gx,0,none⟩) l.atom.terms.length cx):=by rw[hW3];exact World.cell?_setCell_same _ _ _ m2
   have d0:=dz 0 _ (by decide) e0
   have d1:=dz 1 _ (by decide) e1
   have d3:=dz 3 _ (by decide) e3
   have d4:=dz 4 _ (by decide) e4
   have d5:=dz 5 _ (by decide) e5
   have d6:=dz 6 _ (by decide) e6
   have d7:=dz 7 _ (by decide) e7
   have hw3:Ext wr W3:=by rw[hW3];exact Zal (Zaa hin hb3) (Nat.le_refl _) _
   have hown4:ZfB W3 (w.heap.size+3) l.atom.terms gx cx:=by
    rw[hW3]
    exact(hown3.set (a:=⟨wr.heap.size,2,none⟩) hsi _).mono (by omega)
   have HS3:=zh (HS.out.up hw3)
   have HOT:=zh hown4
   clear hW3 dz hown3 hown4 e0 e1 e2 e3 e4 e5 e6 e7 m2 v2 hw3 hin hb3 hsi
   have x2:=HS3.out.x2
   have xf:=HS3.out.xf 2
   have K1:Hid (k+1≤maxLen):=by have:=HN.out;show _≤_;unfold maxLen;omega
   have K2:Hid ((k+1)*104≤140737488355328):=by have:=HN.out;show _≤_;omega
   obtain⟨ps0,hp0,hrow0,hts0⟩:=HS3.out.row
   have HROW:=zh hrow0
   have HP0:=zh hp0
   have HTS:=zh hts0
   have hnn:=HN.out
   clear hp0 hrow0 hts0
   go_wp2_with (at_builtin;refine Zas rfl _ _ 25 rfl (w.heap.size+3) 66 i0 (.agg #[.int .i64 0,.string ⟨#[]⟩,.slice none 0 0,.int .i64 0,.int .i64 0,.string ⟨#[]⟩,.int .i64 0,.string ⟨#[]⟩]) 8 104 Tryz.underlying25 hi hz0 hz1 hz2 rfl (by decide) _ _ _ rfl (HROW.out.alloc _) (some ⟨W3.heap.size,0,none⟩) 1 1 (ZbG (l,gx,cx)) rfl (by intro h;cases h) rfl (ZjY _ _ _ _ _ _ _ _ _ rfl) (by intro u hu;simp[ZbG] at hu;rcases hu with rfl|rfl|rfl|rfl|rfl|rfl|rfl|rfl <;> rfl) K1.out K2.out (Za3 HS3.out.lt) ?_;intro v4 w4 own4 g4;obtain⟨x4,xf4⟩:=(HS3.out.up (Zab zbr _)).kept g4;obtain⟨gv,cv,rfl,hcv⟩:=Za0 own4 (Nat.succ_pos _))
   go_roundw
   case rel=>exact⟨k+1,_,by omega,by go_num,(HS3.out.up (Zab zbr _)).push HX.out (HOT.out.ext (Zab zbr _)) g4 HP0.out (HTS.out.ext (Zab zbr _)) own4⟩
   case measure=>simp[intOf];omega
  ·obtain rfl:k=nb:=by omega
   have hge:¬(k:Int)<(k:Int):=by omega
   have hfull:r.body.take k=r.body:=List.take_of_length_le (by have:=HL.out;omega)
   have K1:Hid (k+1≤maxLen):=by have:=HN.out;show _≤_;unfold maxLen;omega
   have K2:Hid ((k+1)*104≤140737488355328):=by have:=HN.out;show _≤_;omega
   obtain⟨ps0,hp0,hrow0,hts0⟩:=HS.out.row
   have HROW:=zh hrow0
   have HP0:=zh (hp0.trans hfull)
   have HTS:=zh hts0
   clear hp0 hrow0 hts0 hfull
   go_upto_region 10 with (fail)
   go_upto_region 11 with (at_builtin;refine Zas rfl _ _ 25 rfl (w.heap.size+3) 66 i0 (.agg #[.int .i64 0,.string ⟨#[]⟩,.slice none 0 0,.int .i64 0,.int .i64 0,.string ⟨#[]⟩,.int .i64 0,.string ⟨#[]⟩]) 8 104 Tryz.underlying25 hi hz0 hz1 hz2 rfl (by decide) _ _ _ rfl (HROW.out.alloc _) (some ⟨wr.heap.size,0,none⟩) 1 1 Zo9 rfl (by intro h;cases h) rfl (ZjY _ _ _ _ _ _ _ _ _ rfl) (by intro u hu;simp[Zo9] at hu;rcases hu with rfl|rfl|rfl|rfl|rfl|rfl|rfl|rfl <;> rfl) K1.out K2.out (Za3 HS.out.lt) ?_;intro v4 w4 own4 g4;obtain⟨x4,xf4⟩:=(HS.out.up (Zab zbr _)).kept g4;obtain⟨gb,c5,rfl,hc5⟩:=Za0 own4 (Nat.succ_pos _))
   refine Zba (fun W5 hW5=>?_)
   obtain⟨q1,q2,q3,q4,q5,q6,q7,q8⟩:=(HS.out.up (Zab zbr _)).put g4 own4
   rw[←hW5] at q1 q2 q3 q4 q5 q6 q7 q8
   have hnn:=HN.out
   have y2:=q2 _ (by omega) _ _ (by omega) (Zac (Zab zbr _) HS.out.b2)
   have z0:=q2 _ (by omega) _ _ (by omega) (Zac (Zab zbr _) HS.out.z0)
   have z1:=q2 _ (by omega) _ _ (by omega) (Zac (Zab zbr _) HS.out.z1)
   have z2:=q2 _ (by omega) _ _ (by omega) (Zac (Zab zbr _) HS.out.z2)
   have s0:=q3 _ _ (by decide) (Zac (Zab zbr _) HS.out.x0)
   have s1:=q3 _ _ (by decide) (Zac (Zab zbr _) HS.out.x1)
   have zf:∀j,W5.frozen? ⟨w.heap.size+1,j,none⟩=false:=fun j=>(q5 _ j (by omega)).trans ((HS.out.up (Zab zbr _)).zf j)
   have xf2:W5.frozen? ⟨w.heap.size+1+1,2,none⟩=false:=(q5 _ 2 (by omega)).trans ((HS.out.up (Zab zbr _)).xf 2)
   have HH:=zh (q7 _ _ _ ((HS.out.up (Zab zbr _)).head))
   have HTS5:Hid (ZkV W5 (w.heap.size+3) ps0):=fun p hp=>q7 _ _ _ (HTS.out.ext (Zab zbr _) p hp)
   have Q1:=zh q1
   have Q6:=zh q6
   have k0:(0:Int)≤(k:Int):=by omega
   have kc:(k:Int)≤(c5:Int):=by omega
   clear hW5 q1 q2 q3 q5 q6 q7 x4 xf4 own4 g4 b2 x2 xf
   go_upto_region 12 with (fail)
   refine Zba (fun W6 hW6=>?_)
   have e6:∀i j u,(i=w.heap.size+1+1→j≠2)→W5.cell? ⟨i,j,none⟩=some u→W6.cell? ⟨i,j,none⟩=some u:=fun i j u hn hu=>by
    rw[hW6,World.cell?_setCell_other _ _ _ _ (by intro e;injection e with e1 e2;exact hn e1.symm e2.symm)]
    exact hu
   have s2:W6.cell? ⟨w.heap.size+1+1,2,none⟩=some (.slice (some ⟨gb,0,none⟩) k c5):=by rw[hW6];exact World.cell?_setCell_same _ _ _ q4
   have s0:=e6 _ _ _ (by omega) s0
   have s1:=e6 _ _ _ (by omega) s1
   have z0:=e6 _ _ _ (by omega) z0
   have z1:=e6 _ _ _ (by omega) z1
   have z2:=e6 _ _ _ (by omega) z2
   have zf0:W6.frozen? ⟨w.heap.size+1,0,none⟩=false:=by rw[hW6,World.frozen?_setCell];exact zf 0
   have zf1:W6.frozen? ⟨w.heap.size+1,1,none⟩=false:=by rw[hW6,World.frozen?_setCell];exact zf 1
   have zf2:W6.frozen? ⟨w.heap.size+1,2,none⟩=false:=by rw[hW6,World.frozen?_setCell];exact zf 2
   have E6:Hid (Ext w W6):=by show Ext _ _;rw[hW6];exact Zal Q1.out (by show w.heap.size≤w.heap.size+1+1;omega) _
   have O6:Hid (W6.ownsRow (w.heap.size+3) 66 8 (.slice (some ⟨gb,0,none⟩) (k+1) c5) (k+1) (Zgw ps0++Zo9)):=by
    show World.ownsRow _ _ _ _ _ _ _
    rw[hW6]
    exact ownsRow_setCell_below Q6.out (a:=⟨w.heap.size+1+1,2,none⟩) (by show w.heap.size+1+1<_;omega) _
   have OW6:Hid (∀ts g c,ZfB W5 (w.heap.size+3) ts g c→ZfB W6 (w.heap.size+3) ts g c):=fun ts g c h=>by
    rw[hW6]
    exact h.set (a:=⟨w.heap.size+1+1,2,none⟩) (by show w.heap.size+1+1<_;omega) _
   clear hW6 e6 zf xf2 q4 y2
   go_wp2
   have hlp:ps0.length=k:=by rw[←HL.out,←HP0.out,List.length_map]
   obtain⟨S0,S1,S2⟩:=set3 (b:=w.heap.size+1) z0 z1 z2 (.string r.head.pred) (.slice (some ⟨gh,0,none⟩) nh ch') (.slice (some ⟨gb,0,none⟩) k c5)
   have E7:Ext w (((W6.setCell ⟨w.heap.size+1,0,none⟩ (.string r.head.pred)).setCell ⟨w.heap.size+1,1,none⟩ (.slice (some ⟨gh,0,none⟩) nh ch')).setCell ⟨w.heap.size+1,2,none⟩ (.slice (some ⟨gb,0,none⟩) k c5)):=Zal (Zal (Zal E6.out (Nat.le_succ _) _) (Nat.le_succ _) _) (Nat.le_succ _) _
   have O7:=ownsRow_setCell_below (ownsRow_setCell_below (ownsRow_setCell_below O6.out (a:=⟨w.heap.size+1,0,none⟩) (by show w.heap.size+1<_;omega) (.string r.head.pred)) (a:=⟨w.heap.size+1,1,none⟩) (by show w.heap.size+1<_;omega) (.slice (some ⟨gh,0,none⟩) nh ch')) (a:=⟨w.heap.size+1,2,none⟩) (by show w.heap.size+1<_;omega) (.slice (some ⟨gb,0,none⟩) k c5)
   have OT:∀ts g c,ZfB W5 (w.heap.size+3) ts g c→ZfB (((W6.setCell ⟨w.heap.size+1,0,none⟩ (.string r.head.pred)).setCell ⟨w.heap.size+1,1,none⟩ (.slice (some ⟨gh,0,none⟩) nh ch')).setCell ⟨w.heap.size+1,2,none⟩ (.slice (some ⟨gb,0,none⟩) k c5)) (w.heap.size+3) ts g c:=fun ts g c h=>(((OW6.out ts g c h).set (a:=⟨w.heap.size+1,0,none⟩) (by show w.heap.size+1<_;omega) _).set (a:=⟨w.heap.size+1,1,none⟩) (by show w.heap.size+1<_;omega) _).set (a:=⟨w.heap.size+1,2,none⟩) (by show w.heap.size+1<_;omega) _
   generalize ((W6.setCell ⟨w.heap.size+1,0,none⟩ (.string r.head.pred)).setCell ⟨w.heap.size+1,1,none⟩ (.slice (some ⟨gh,0,none⟩) nh ch')).setCell ⟨w.heap.size+1,2,none⟩ (.slice (some ⟨gb,0,none⟩) k c5)=W7 at S0 S1 S2 E7 O7 OT ⊢
   refine bodyPost_ret (by simp[results,Tryz.results6,go_sem,S0,S1,S2];try rfl) rfl ?_
   exact⟨gh,ch',gb,c5,rfl,⟨(OT _ _ _ HH.out).mono (by omega),ps0,HP0.out,⟨by rw[hlp];exact Zao O7 (by omega),by rw[hlp];exact hc5⟩,fun p hp=>(OT _ _ _ (HTS5.out p hp)).mono (by omega)⟩,E7⟩
theorem Zpb (xs:List ByteArray)(aa:Option Addr)(n cap:Nat)(ab:Option Addr)(cb:Nat)(w:World)(ha:Zai w aa n xs)(hb:Zai w ab n xs):
  Calls Tryz.prog 17 #[.slice aa n cap,.slice ab n cb] w fun e w'=>e=.returned (.bool true)∧∃q,w'=w.drewN q:=by
 have HA:=zh ha
 have HB:=zh hb
 have hn:n≤9223372036854775807:=ha.1
 clear ha hb
 go_enter Tryz.func17,Tryz.ntmps17
 go_wp2
 go_loopw [5] (fun i wj=>∃k:Nat,k≤n∧i=.int .i64 (k:Int)∧Hid (∃q,wj=w.drewN q)) (fun i _=>n-(intOf i).toNat)
 case atStart=>exact⟨0,by omega,rfl,⟨0,(World.drewN_zero _).symm⟩⟩
 case round=>
  obtain⟨k,hk,rfl,hq⟩:=hrel
  have hw:Ext w wr:=by
   obtain⟨q,rfl⟩:=hq.out
   exact Zae zbr _
  by_cases hlt:k<n
  ·obtain⟨x,b1,o1,hx,rfl,h1⟩:=(HA.out.keep hw).2.at hlt
   obtain⟨y,b2,o2,hy,rfl,h2⟩:=(HB.out.keep hw).2.at hlt
   obtain rfl:x=y:=by rw[hx] at hy;exact Option.some.inj hy
   have g1:wr.cell? ⟨b1,o1+k,none⟩=some (.string x):=by simpa [Zdg] using h1
   have g2:wr.cell? ⟨b2,o2+k,none⟩=some (.string x):=by simpa [Zdg] using h2
   clear hx hy h1 h2 hw
   go_wp2
   go_quiet (fail)
   go_wp2
   go_roundw
   case rel=>
    refine⟨k+1,by omega,by go_num,?_⟩
    obtain⟨q,rfl⟩:=hq.out
    exact⟨_,World.drewN_drewN _ _ _⟩
   case measure=>simp[intOf];omega
  ·go_wp2
   go_returns
   exact⟨rfl,hq.out⟩
theorem Zpc (ts:List ZaG)(aa:Option Addr)(n cap:Nat)(ab:Option Addr)(cb:Nat)(w:World)(ha:Zaq w aa n ts)(hb:Zaq w ab n ts):
  Calls Tryz.prog 87 #[.slice aa n cap,.slice ab n cb] w fun e w'=>e=.returned (.bool true)∧Ext w w':=by
 have HA:=zh ha
 have HB:=zh hb
 have hn:=ha.1
 have nt:∀(t:ZaG) w,(binOp .neq 64 (.agg #[.int .i64 t.kind,.string t.text]) (.agg #[.int .i64 t.kind,.string t.text])).run Tryz.prog w=.ok (.bool false) w:=fun t w=>by
  have:=K.Zlg t.kind t.kind t.text t.text w
  rw[this]
  simp[K.Ze1]
 clear ha hb
 go_enter Tryz.func87,Tryz.ntmps87
 go_wp2
 go_loopw [5] (fun i wj=>∃k:Nat,k≤n∧i=.int .i64 (k:Int)∧Ext w wj) (fun i _=>n-(intOf i).toNat)
 case atStart=>exact⟨0,by omega,rfl,Below.refl _ _⟩
 case round=>
  obtain⟨k,hk,rfl,hw⟩:=hrel
  by_cases hlt:k<n
  ·obtain⟨x,b1,o1,hx,rfl,h1,h2,_⟩:=(HA.out.keep hw).2.at hlt
   obtain⟨y,b2,o2,hy,rfl,g1,g2,_⟩:=(HB.out.keep hw).2.at hlt
   obtain rfl:x=y:=by rw[hx] at hy;exact Option.some.inj hy
   clear hx hy
   have nx:=nt x
   go_wp2
   go_quiet (fail)
   go_wp2
   go_roundw
   case rel=>exact⟨k+1,by omega,by go_num,Zae hw _⟩
   case measure=>simp[intOf];omega
  ·go_wp2
   go_returns
   exact⟨rfl,hw⟩
theorem Zuu (r:ZaQ)(ah:Option Addr)(nh ch:Nat)(ab:Option Addr)(nb cb:Nat)(ah':Option Addr)(ch':Nat)(ab':Option Addr)(cb':Nat)(w:World)(ha:ZaR w r ah nh ch ab nb cb)(ho:ZaR w r ah' nh ch' ab' nb cb'):
  Calls Tryz.prog 39 #[.agg #[.string r.head.pred,.slice ah nh ch,.slice ab nb cb],.agg #[.string r.head.pred,.slice ah' nh ch',.slice ab' nb cb']] w fun e w'=>e=.returned (.bool true)∧Ext w w':=by
 have hn:=ha.body.1
 have HA:=zh ha
 have HO:=zh ho
 have TT:Hid (∀W,Ext w W→Calls Tryz.prog 87 #[.slice ah nh ch,.slice ah' nh ch'] W fun e w'=>e=.returned (.bool true)∧Ext W w'):=fun W h=>Zpc r.head.terms ah nh ch ah' ch' W (ha.terms.keep h) (ho.terms.keep h)
 have nt:∀(t:ZaG) w,(binOp .neq 64 (.agg #[.int .i64 t.kind,.string t.text]) (.agg #[.int .i64 t.kind,.string t.text])).run Tryz.prog w=.ok (.bool false) w:=fun t w=>by
  have:=K.Zlg t.kind t.kind t.text t.text w
  rw[this]
  simp[K.Ze1]
 clear ha ho
 go_enter Tryz.func39,Tryz.ntmps39
 go_upto_region 1 with (fail)
 refine Zba (fun W hW=>?_)
 have hb0:Ext w W:=by rw[hW];go_grown
 have x0:W.cell? ⟨w.heap.size,0,none⟩=some (.string r.head.pred):=by rw[hW];go_simp
 have x1:W.cell? ⟨w.heap.size,1,none⟩=some (.slice ah nh ch):=by rw[hW];go_simp
 have x2:W.cell? ⟨w.heap.size,2,none⟩=some (.slice ab nb cb):=by rw[hW];go_simp
 have y0:W.cell? ⟨w.heap.size+1,0,none⟩=some (.string r.head.pred):=by rw[hW];go_simp
 have y1:W.cell? ⟨w.heap.size+1,1,none⟩=some (.slice ah' nh ch'):=by rw[hW];go_simp
 have y2:W.cell? ⟨w.heap.size+1,2,none⟩=some (.slice ab' nb cb'):=by rw[hW];go_simp
 clear hW
 go_wp2_with (go_at_call 87;(with_reducible refine(TT.out _ hb0).mono ?_);rintro e w1 ⟨rfl,h1⟩;have x2:=Zac h1 x2;have y2:=Zac h1 y2)
 have hb1:=Zaa hb0 h1
 have HAW:=zh (HA.out.body.keep hb1)
 have HOW:=zh (HO.out.body.keep hb1)
 clear x0 x1 y0 y1 h1 hb0 TT
 go_loopw [5] (fun i wr=>∃k:Nat,k≤nb∧i=.int .i64 (k:Int)∧Ext w1 wr) (fun i _=>nb-(intOf i).toNat)
 case atStart=>exact⟨0,by omega,rfl,Below.refl _ _⟩
 case round=>
  obtain⟨k,hk,rfl,hst⟩:=hrel
  have z4:=Zac hst x2
  have z6:=Zac hst y2
  have HST:=zh hst
  clear hst
  by_cases hge:nb≤k
  ·go_wp2
   go_returns
   exact⟨rfl,Zaa hb1 HST.out⟩
  ·have hlt:k<nb:=by omega
   obtain⟨x,bt,off,hx,rfl,xa,xn,xc,h0,h1,h2,h3,h4,h5,h6,h7,ht,hcap,_⟩:=(HAW.out.keep HST.out).2.at hlt
   obtain⟨y,bu,offu,hxu,rfl,ya,yn,yc,g0,g1,g2,g3,g4,g5,g6,g7,gt,gcap,_⟩:=(HOW.out.keep HST.out).2.at hlt
   obtain rfl:x=y:=by rw[hx] at hxu;exact Option.some.inj hxu
   obtain rfl:xn=yn:=by rw[←ht.2.1,←gt.2.1]
   have TL:Hid (∀W,Ext wr W→Calls Tryz.prog 87 #[.slice xa xn xc,.slice ya xn yc] W fun e w'=>e=.returned (.bool true)∧Ext W w'):=fun W h=>Zpc x.atom.terms xa xn xc ya yc W (ht.keep h) (gt.keep h)
   have hki:(k:Int)<(nb:Int):=by omega
   have n1:=nt x.left
   have n2:=nt x.right
   clear hx hxu ht gt hcap gcap x2 y2
   go_upto_region 7 with (fail)
   refine Zba (fun W7 hW7=>?_)
   have e7:Ext wr W7:=by rw[hW7];exact Zab zbr _
   have c0:W7.cell? ⟨wr.heap.size,0,none⟩=some (.int .i64 x.kind):=by rw[hW7];go_simp
   have c1:W7.cell? ⟨wr.heap.size,1,none⟩=some (.string x.atom.pred):=by rw[hW7];go_simp
   have c2:W7.cell? ⟨wr.heap.size,2,none⟩=some (.slice xa xn xc):=by rw[hW7];go_simp
   have c3:W7.cell? ⟨wr.heap.size,3,none⟩=some (.int .i64 x.op):=by rw[hW7];go_simp
   have c4:W7.cell? ⟨wr.heap.size,4,none⟩=some (.int .i64 x.left.kind):=by rw[hW7];go_simp
   have c5:W7.cell? ⟨wr.heap.size,5,none⟩=some (.string x.left.text):=by rw[hW7];go_simp
   have c6:W7.cell? ⟨wr.heap.size,6,none⟩=some (.int .i64 x.right.kind):=by rw[hW7];go_simp
   have c7:W7.cell? ⟨wr.heap.size,7,none⟩=some (.string x.right.text):=by rw[hW7];go_simp
   have g0:=Zac e7 g0
   have g1:=Zac e7 g1
   have g2:=Zac e7 g2
   have g3:=Zac e7 g3
   have g4:=Zac e7 g4
   have g5:=Zac e7 g5
   have g6:=Zac e7 g6
   have g7:=Zac e7 g7
   have z6:=Zac e7 z6
   clear hW7 h0 h1 h2 h3 h4 h5 h6 h7 z4
   go_upto_region 8 with (fail)
   refine Zba (fun W8 hW8=>?_)
   have e8:Ext W7 W8:=by rw[hW8];exact Zab zbr _
   have d0:W8.cell? ⟨W7.heap.size,0,none⟩=some (.int .i64 x.kind):=by rw[hW8];go_simp
   have d1:W8.cell? ⟨W7.heap.size,1,none⟩=some (.string x.atom.pred):=by rw[hW8];go_simp
   have d2:W8.cell? ⟨W7.heap.size,2,none⟩=some (.slice ya xn yc):=by rw[hW8];go_simp
   have d3:W8.cell? ⟨W7.heap.size,3,none⟩=some (.int .i64 x.op):=by rw[hW8];go_simp
   have d4:W8.cell? ⟨W7.heap.size,4,none⟩=some (.int .i64 x.left.kind):=by rw[hW8];go_simp
   have d5:W8.cell? ⟨W7.heap.size,5,none⟩=some (.string x.left.text):=by rw[hW8];go_simp
   have d6:W8.cell? ⟨W7.heap.size,6,none⟩=some (.int .i64 x.right.kind):=by rw[hW8];go_simp
   have d7:W8.cell? ⟨W7.heap.size,7,none⟩=some (.string x.right.text):=by rw[hW8];go_simp
   have c0:=Zac e8 c0
   have c1:=Zac e8 c1
   have c2:=Zac e8 c2
   have c3:=Zac e8 c3
   have c4:=Zac e8 c4
   have c5:=Zac e8 c5
   have c6:=Zac e8 c6
   have c7:=Zac e8 c7
   have E8:=zh (Zaa e7 e8)
   clear hW8 g0 g1 g2 g3 g4 g5 g6 g7 z6 e7 e8
   go_wp2_with (go_at_call 87;(with_reducible refine(TL.out _ E8.out).mono ?_);rintro e w9 ⟨rfl,h9⟩)
   go_roundw
   case rel=>exact⟨k+1,by omega,by go_num,Zaa HST.out (Zaa E8.out h9)⟩
   case measure=>simp[intOf];omega
theorem ZfB.mark {w:World}{base:Nat}{ts:List ZaG}{g cap:Nat}(h:ZfB w base ts g cap):ts.length+1≤cap∧cap≤maxLen∧w.cell? ⟨g,ts.length*2,none⟩=some (.int .i64 (-7)):=by
 refine⟨h.2,?_,?_⟩
 ·rcases h.1.2 with⟨h1,_⟩|⟨g',c',cur,h1,_,_,_,hm,_⟩
  ·cases h1
  ·cases h1
   exact hm
 ·obtain⟨g1,_⟩:=Zfz (ts++[ZiV]) ts.length ZiV (by simp)
  have:=h.1.cells (g:=g) rfl _ _ g1
  rw[Addr.add_lit,Nat.zero_add] at this
  exact this
theorem Zu9.mark {w:World}{base:Nat}{ps:List (K.Lit×Nat×Nat)}{g cap:Nat}(h:Zu9 w base ps g cap):ps.length+1≤cap∧cap≤maxLen∧w.cell? ⟨g,ps.length*8,none⟩=some (.int .i64 (-7)):=by
 refine⟨h.2,?_,?_⟩
 ·rcases h.1.2 with⟨h1,_⟩|⟨g',c',cur,h1,_,_,_,hm,_⟩
  ·cases h1
  ·cases h1
   exact hm
 ·have:=h.1.cells (g:=g) rfl (ps.length*8) (.int .i64 (-7)) (by rw[List.getElem?_append_right (by rw[ZfC];omega),ZfC];simp[Zo9])
  rw[Addr.add_lit,Nat.zero_add] at this
  exact this
theorem Zpa.lit_at {w:World}{base:Nat}{r:ZaQ}{gh ch gb cb:Nat}(h:Zpa w base r gh ch gb cb){i:Nat}{l:K.Lit}(hi:r.body[i]? =some l):∃g c,w.cell? ⟨gb,i*8+1,none⟩=some (.string l.atom.pred)∧w.cell? ⟨gb,i*8+2,none⟩=some (.slice (some ⟨g,0,none⟩) l.atom.terms.length c)∧ZfB w base l.atom.terms g c:=by
 obtain⟨ps,hps,hL,hT⟩:=h.body
 rw[←hps,List.getElem?_map] at hi
 obtain⟨p,hp,rfl⟩:=Option.map_eq_some_iff.1 hi
 have hil:=(zgs hp).1
 have C:∀j u,(ZbG p)[j]? =some u→w.cell? ⟨gb,i*8+j,none⟩=some u:=by
  intro j u hu
  have hj:j<8:=(zgs hu).1
  have:=hL.1.cells (g:=gb) rfl (i*8+j) u (by rw[List.getElem?_append_left (by rw[ZfC];omega),ZjX ps i j p hp hj];exact hu)
  rw[Addr.add_lit,Nat.zero_add] at this
  exact this
 exact⟨p.2.1,p.2.2,C 1 _ rfl,C 2 _ rfl,hT p (zmg hp)⟩
theorem Zpa.ext {w w':World}{base:Nat}{r:ZaQ}{gh ch gb cb:Nat}(h:Zpa w base r gh ch gb cb)(e:Ext w w'):Zpa w' base r gh ch gb cb:=by
 obtain⟨ps,h1,h2,h3⟩:=h.body
 exact⟨h.head.ext e,ps,h1,⟨h2.1.kept (ZgN e none) (by simp[Value.ownBlock]),h2.2⟩,h3.ext e⟩
theorem Zuv (r:ZaQ)(gh nh ch gb nb cb:Nat)(base:Nat)(ah':Option Addr)(ch':Nat)(ab':Option Addr)(cb':Nat)(w:World)(ho:Zpa w base r gh ch gb cb)(hl:ZaR w r (some ⟨gh,0,none⟩) nh ch (some ⟨gb,0,none⟩) nb cb)(hr:ZaR w r ah' nh ch' ab' nb cb'):
  Calls Tryz.prog 9 #[.agg #[.string r.head.pred,.slice (some ⟨gh,0,none⟩) nh ch,.slice (some ⟨gb,0,none⟩) nb cb],.agg #[.string r.head.pred,.slice ah' nh ch',.slice ab' nb cb']] w fun e w'=>e=.returned (.bool true)∧Ext w w':=by
 obtain⟨mh1,mh2,mh3⟩:=ho.head.mark
 have hhl:r.head.terms.length=nh:=hl.terms.2.1
 rw[hhl] at mh1 mh3
 obtain⟨ps,hps,hL,_⟩:=ho.body
 have hpl:ps.length=nb:=by rw[←hl.body.2.1,←hps,List.length_map]
 obtain⟨mb1,mb2,mb3⟩:=hL.mark
 rw[hpl] at mb1 mb3
 have hnb:=hl.body.1
 have hnh:=hl.terms.1
 have HLN:=zh hl.body.2.1
 have HO:=zh ho
 have RU:Hid (∀W,Ext w W→Calls Tryz.prog 39 #[.agg #[.string r.head.pred,.slice (some ⟨gh,0,none⟩) nh ch,.slice (some ⟨gb,0,none⟩) nb cb],.agg #[.string r.head.pred,.slice ah' nh ch',.slice ab' nb cb']] W fun e w'=>e=.returned (.bool true)∧Ext W w'):=fun W h=>Zuu r _ nh ch _ nb cb ah' ch' ab' cb' W (hl.keep h) (hr.keep h)
 clear ho hl hr hps hL hpl hhl
 have mb2':cb≤9223372036854775807:=by unfold maxLen at mb2;omega
 have mh2':ch≤9223372036854775807:=by unfold maxLen at mh2;omega
 clear mb2 mh2
 have q0:(0:Int)≤(nb:Int):=by omega
 have q1:(0:Int)≤(nb:Int)+1:=by omega
 have q2:(nb:Int)+1≤(cb:Int):=by omega
 have q3:(nb:Int)<(nb:Int)+1:=by omega
 have q4:wrap64 ((nb:Int)+1)=(nb:Int)+1:=by unfold wrap64;omega
 have q5:(0:Int)≤(nh:Int):=by omega
 have q6:(0:Int)≤(nh:Int)+1:=by omega
 have q7:(nh:Int)+1≤(ch:Int):=by omega
 have q8:(nh:Int)<(nh:Int)+1:=by omega
 have q9:wrap64 ((nh:Int)+1)=(nh:Int)+1:=by unfold wrap64;omega
 go_enter Tryz.func9,Tryz.ntmps9
 go_upto_region 1 with (fail)
 refine Zba (fun W hW=>?_)
 have hb0:Ext w W:=by rw[hW];go_grown
 have x0:W.cell? ⟨w.heap.size,0,none⟩=some (.string r.head.pred):=by rw[hW];go_simp
 have x1:W.cell? ⟨w.heap.size,1,none⟩=some (.slice (some ⟨gh,0,none⟩) nh ch):=by rw[hW];go_simp
 have x2:W.cell? ⟨w.heap.size,2,none⟩=some (.slice (some ⟨gb,0,none⟩) nb cb):=by rw[hW];go_simp
 have y0:W.cell? ⟨w.heap.size+1,0,none⟩=some (.string r.head.pred):=by rw[hW];go_simp
 have y1:W.cell? ⟨w.heap.size+1,1,none⟩=some (.slice ah' nh ch'):=by rw[hW];go_simp
 have y2:W.cell? ⟨w.heap.size+1,2,none⟩=some (.slice ab' nb cb'):=by rw[hW];go_simp
 have mb3:=Zac hb0 mb3
 have mh3:=Zac hb0 mh3
 have HB0:=zh hb0
 clear hW hb0
 go_upto_region 2 with (go_at_call 39;(with_reducible refine(RU.out _ HB0.out).mono ?_);rintro e w1 ⟨rfl,h1⟩;have x1:=Zac h1 x1;have x2:=Zac h1 x2;have y1:=Zac h1 y1;have y2:=Zac h1 y2;have mb3:=Zac h1 mb3;have mh3:=Zac h1 mh3)
 have HB1:=zh (Zaa HB0.out h1)
 clear h1 RU
 go_quiet (fail)
 go_wp2
 go_loopw [6] (fun i wj=>∃k:Nat,k≤nb∧i=.int .i64 (k:Int)∧Ext w1 wj) (fun i _=>nb-(intOf i).toNat)
 case atStart=>exact⟨0,by omega,rfl,Zae zbr _⟩
 case round=>
  obtain⟨k,hk,rfl,hb⟩:=hrel
  have z2:=Zac hb x2
  have z3:=Zac hb y2
  have HE:=zh hb
  have HEW:=zh (Zaa HB1.out hb)
  clear hb x0 x1 y0 y1 mb3 mh3 q1 q2 q3 q4 q5 q6 q7 q8 q9 mb1 mh1 mb2' mh2'
  by_cases hge:nb≤k
  ·go_wp2
   go_returns
   exact⟨rfl,HEW.out⟩
  ·obtain⟨l,hll⟩:∃l,r.body[k]? =some l:=⟨_,zge (by rw[HLN.out];omega)⟩
   obtain⟨g,c,a1,a2,ot⟩:=(HO.out.ext HEW.out).lit_at hll
   obtain⟨m1,m2,m3⟩:=ot.mark
   obtain⟨n,hn⟩:∃n,l.atom.terms.length=n:=⟨_,rfl⟩
   rw[hn] at a2 m1 m3
   have hki:(k:Int)<(nb:Int):=by omega
   have hkc:k<nb:=by omega
   have p2:c≤9223372036854775807:=by unfold maxLen at m2;omega
   have p5:(0:Int)≤(n:Int):=by omega
   have p6:(0:Int)≤(n:Int)+1:=by omega
   have p7:(n:Int)+1≤(c:Int):=by omega
   have p8:(n:Int)<(n:Int)+1:=by omega
   have p9:wrap64 ((n:Int)+1)=(n:Int)+1:=by unfold wrap64;omega
   clear ot hll hn m2
   go_wp2
   go_roundw
   case rel=>exact⟨k+1,by omega,by go_num,HE.out⟩
   case measure=>simp[intOf];omega
def Znf (lo:Nat)(w:World)(xs:List Zb3)(v:Value):Prop:=∃us:List Value,w.ownsRow lo 57 3 v xs.length us∧∀i x,xs[i]? =some x→us[i*3]? =some (.string x.name)∧us[i*3+1]? =some (.int .i64 x.ar)∧∃vr,us[i*3+2]? =some vr∧Zdo lo w x.rows vr
theorem ZdY.relW {w w':World}{xs:List Zb3}{v:Value}(h:ZdY w w' xs v):Znf w.heap.size w' xs v:=h.row
theorem Znf.ext {lo:Nat}{w w':World}{xs:List Zb3}{v:Value}(h:Znf lo w xs v)(e:Ext w w'):Znf lo w' xs v:=by
 obtain⟨us,h1,h2⟩:=h
 refine⟨us,Zar h1 e,fun i x hx=>?_⟩
 obtain⟨q1,q2,vr,q3,q4⟩:=h2 i x hx
 exact⟨q1,q2,vr,q3,q4.ext e⟩
theorem Znf.at {lo:Nat}{w:World}{xs:List Zb3}{a:Option Addr}{n c:Nat}(h:Znf lo w xs (.slice a n c)){k:Nat}{x:Zb3}(hx:xs[k]? =some x):∃g ar cr,a=some ⟨g,0,none⟩∧w.cell? ⟨g,k*3,none⟩=some (.string x.name)∧w.cell? ⟨g,k*3+1,none⟩=some (.int .i64 x.ar)∧w.cell? ⟨g,k*3+2,none⟩=some (.slice ar x.rows.length cr)∧Zdo lo w x.rows (.slice ar x.rows.length cr):=by
 obtain⟨us,h1,h2⟩:=h
 have hk:=(zgs hx).1
 obtain⟨q1,q2,vr,q3,q4⟩:=h2 k x hx
 obtain⟨g,c',e,_⟩:=Za0 h1 (by omega)
 cases e
 obtain⟨us2,o2,r2⟩:=q4
 obtain⟨ar,cr,rfl,_⟩:=Zag o2
 have C:∀j u,us[j]? =some u→w.cell? ⟨g,j,none⟩=some u:=fun j u hu=>by
  have:=h1.cells (g:=g) rfl j u hu
  rw[Addr.add_lit,Nat.zero_add] at this
  exact this
 exact⟨g,ar,cr,rfl,C _ _ q1,C _ _ q2,C _ _ q3,us2,o2,r2⟩
theorem Zdo.at {lo:Nat}{w:World}{rs:List (List ByteArray)}{a:Option Addr}{n c:Nat}(h:Zdo lo w rs (.slice a n c)){k:Nat}{r:List ByteArray}(hr:rs[k]? =some r):∃g ar cr,a=some ⟨g,0,none⟩∧w.cell? ⟨g,k,none⟩=some (.slice ar r.length cr)∧Zai w ar r.length r:=by
 obtain⟨us,h1,h2⟩:=h
 have hk:=(zgs hr).1
 obtain⟨u,hu⟩:∃u,us[k]? =some u:=⟨_,zge (by have:=h2.1;omega)⟩
 have h3:=h2.2 k r u hr hu
 obtain⟨ar,cr,rfl,_⟩:=Zag h3
 have h1':=h1
 obtain⟨g,c',e,_⟩:=Za0 h1 (by omega)
 cases e
 have:=h1'.cells (g:=g) rfl k _ hu
 rw[Addr.add_lit,Nat.zero_add] at this
 exact⟨g,ar,cr,rfl,this,ZaL h3 (Za4 h3).1⟩
theorem ZkW (xs:List Zb3)(v v':Value)(lo lo':Nat)(w:World)(h:Znf lo w xs v)(h':Znf lo' w xs v')(hn:xs.length≤1000000)(hrn:∀x∈xs,x.rows.length≤1000000):
  Calls Tryz.prog 10 #[v,v'] w fun e w'=>e=.returned (.bool true)∧Ext w w':=by
 have H:=zh h
 have H':=zh h'
 have HRN:=zh hrn
 obtain⟨us,o1,_⟩:=h
 obtain⟨us',o2,_⟩:=h'
 obtain⟨a,c,rfl,_⟩:=Zag o1
 obtain⟨a',c',rfl,_⟩:=Zag o2
 obtain⟨n,hnx⟩:∃n,xs.length=n:=⟨_,rfl⟩
 rw[hnx] at H H' hn ⊢
 have HNX:=zh hnx
 clear o1 o2 hrn hnx
 go_enter Tryz.func10,Tryz.ntmps10
 go_wp2
 go_loopw [5] (fun i wj=>∃k:Nat,k≤n∧i=.int .i64 (k:Int)∧Ext w wj) (fun i _=>n-(intOf i).toNat)
 case atStart=>exact⟨0,by omega,rfl,Below.refl _ _⟩
 case round=>
  obtain⟨k,hk,rfl,hw⟩:=hrel
  have HW:=zh hw
  by_cases hlt:k<n
  ·obtain⟨x,hx⟩:∃x,xs[k]? =some x:=⟨_,zge (by have:=HNX.out;omega)⟩
   obtain⟨g,ar,cr,rfl,g1,g2,g3,g4⟩:=(H.out.ext hw).at hx
   obtain⟨g',ar',cr',rfl,f1,f2,f3,f4⟩:=(H'.out.ext hw).at hx
   have hrl:=HRN.out x (zmg hx)
   obtain⟨m,hm⟩:∃m,x.rows.length=m:=⟨_,rfl⟩
   rw[hm] at g3 g4 f3 f4 hrl
   have HM:=zh hm
   have G4:=zh g4
   have F4:=zh f4
   have hki:(k:Int)<(n:Int):=by omega
   have KK:Hid (∀W,Ext wr W→W.cell? ⟨g,k*3+2,none⟩=some (.slice ar m cr)∧W.cell? ⟨g',k*3+2,none⟩=some (.slice ar' m cr')):=fun W h=>⟨Zac h g3,Zac h f3⟩
   clear hx hm g4 f4 hw
   go_wp2
   go_quiet (fail)
   clear g1 g2 g3 f1 f2 f3
   go_wp2
   go_loopw [6] (fun i wj=>∃j:Nat,j≤m∧i=.int .i64 (j:Int)∧Ext wr wj) (fun i _=>m-(intOf i).toNat)
   case atStart=>exact⟨0,by omega,rfl,Zae zbr _⟩
   case round=>
    obtain⟨j,hj,rfl,hw⟩:=hrel
    have HW2:=zh hw
    obtain⟨k3,l3⟩:=KK.out _ hw
    by_cases hlj:j<m
    ·obtain⟨r,hr⟩:∃r,x.rows[j]? =some r:=⟨_,zge (by have:=HM.out;omega)⟩
     obtain⟨h,a1,c1,rfl,t1,t2⟩:=(G4.out.ext hw).at hr
     obtain⟨h',a2,c2,rfl,s1,s2⟩:=(F4.out.ext hw).at hr
     have hji:(j:Int)<(m:Int):=by omega
     have TX:Hid (∀q,Calls Tryz.prog 17 #[.slice a1 r.length c1,.slice a2 r.length c2] (wr.drewN q) fun e w'=>e=.returned (.bool true)∧∃m,w'=(wr.drewN q).drewN m):=fun q=>Zpb r a1 r.length c1 a2 c2 _ (t2.keep (Zae zbr _)) (s2.keep (Zae zbr _))
     clear hr t2 s2 hw
     go_wp2
     go_quiet ((go_at_call 17;exact Calls.quiet_of (TX.out _)))
     go_wp2
     go_roundw
     case rel=>exact⟨j+1,by omega,by go_num,Zae HW2.out _⟩
     case measure=>simp[intOf];omega
    ·obtain rfl:j=m:=by omega
     have hge:¬(j:Int)<(j:Int):=by omega
     go_wp2
     go_roundw
     case rel=>exact⟨k+1,by omega,by go_num,Zaa HW.out HW2.out⟩
     case measure=>simp[intOf];omega
  ·obtain rfl:k=n:=by omega
   have hge:¬(k:Int)<(k:Int):=by omega
   go_wp2
   go_returns
   exact⟨rfl,HW.out⟩
