/- The walks of the trie's width and of Build. -/
import Derived.Test.YtjfbjjmiobgjfaaGreatG6
import Derived.StillTailTactics
set_option maxRecDepth 100000
set_option maxHeartbeats 8000000
namespace Go.Proofs.YtjfbjjmiobgjfaaGreat
open ChangeShapes WideShapes ChangeAt RowKit
structure ZhI (w0:World)(pt g N:Nat)(ls:List Lev)(w:World):Prop where
 old:Ext w0 w
 lev:ZdH w0.heap.size w g ls
 top:w.heap[pt]? =some (.cells #[.slice (some ⟨g,0,none⟩) ls.length ls.length,.int .i64 (N:Int),.bool true] 223 (0,0))
 pt:w0.heap.size≤pt
theorem ZhI.cells {w0:World}{pt g N:Nat}{ls:List Lev}{w:World}(h:ZhI w0 pt g N ls w):w.cell? ⟨pt,0,none⟩=some (.slice (some ⟨g,0,none⟩) ls.length ls.length)∧w.cell? ⟨pt,1,none⟩=some (.int .i64 (N:Int))∧w.cell? ⟨pt,2,none⟩=some (.bool true):=by
 simp[World.cell?,h.top]
theorem ZhI.ext {w0:World}{pt g N:Nat}{ls:List Lev}{w w':World}(h:ZhI w0 pt g N ls w)(e:Ext w w'):ZhI w0 pt g N ls w':=⟨Zaa h.old e,h.lev.ext e,(e.block pt (zag h.top).1).trans h.top,h.pt⟩
theorem Ztd (pt g d i:Nat)(ways:Int)(res:Int)(w:World)(h0:w.cell? ⟨pt,0,none⟩=some (.slice (some ⟨g,0,none⟩) d d))(h1:i<d→∃a n c,w.cell? ⟨g,i*2,none⟩=some (.slice a n c)∧res=(n:Int))(h2:d≤i→res=ways):
  Calls Tryz.prog 151 #[.pointer (some ⟨pt,0,none⟩),.int .i64 (i:Int),.int .i64 ways] w fun e w'=>e=.returned (.int .i64 res)∧w'=w:=by
 by_cases hlt:i<d
 ·have l1:(i:Int)<(d:Int):=by omega
  obtain⟨a,n,c,hc,rfl⟩:=h1 hlt
  clear h1 h2
  go_enter Tryz.func151,Tryz.ntmps151
  go_wp2
  go_returns
  exact⟨rfl,rfl⟩
 ·have l1:¬(i:Int)<(d:Int):=by omega
  obtain rfl:=h2 (by omega)
  clear h1 h2
  go_enter Tryz.func151,Tryz.ntmps151
  go_wp2
  go_returns
  exact⟨rfl,rfl⟩
theorem ZhI.width {w0:World}{pt g N:Nat}{ls:List Lev}{w:World}(h:ZhI w0 pt g N ls w){i:Nat}{ways:Int}{res:Int}(h1:∀l,ls[i]? =some l→res=(l.ks.length:Int))(h2:ls.length≤i→res=ways):
  Calls Tryz.prog 151 #[.pointer (some ⟨pt,0,none⟩),.int .i64 (i:Int),.int .i64 ways] w fun e w'=>e=.returned (.int .i64 res)∧w'=w:=by
 refine Ztd pt g ls.length i ways res w h.cells.1 (fun hlt=>?_) h2
 have hl:ls[i]? =some ls[i]:=zge hlt
 obtain⟨a,c,e,_⟩:=Zag (h.lev.ks i _ hl)
 refine⟨a,_,c,?_,h1 _ hl⟩
 rw[←e]
 exact(h.lev.cell hl).1
theorem ZhI.pushK {w0:World}{pt g N:Nat}{ls:List Lev}{w w1:World}(h:ZhI w0 pt g N ls w){i:Nat}{l:Lev}(hl:ls[i]? =some l){o:Obj}{v':Value}{t:ByteArray}
  (r1:w1.ownsRow w0.heap.size 9 1 v' (l.ks.length+1) (l.ks.map Value.string++[Value.string t])) (r2:(w.alloc o).grownBy w1 l.kv.ownBlock) (r3:∀b,v'.ownBlock=some b→l.kv.ownBlock=some b∨b=(w.alloc o).heap.size):
  w1.cell? ⟨g,i*2,none⟩=some l.kv∧w1.frozen? ⟨g,i*2,none⟩=false∧w1.cell? ⟨pt,0,none⟩=some (.slice (some ⟨g,0,none⟩) ls.length ls.length)∧ZhI w0 pt g N (ls.set i {l with kv:=v',ks:=l.ks++[t]}) (w1.setCell ⟨g,i*2,none⟩ v'):=by
 obtain⟨p1,p2,p3,p4⟩:=h.lev.pushK hl r1 r2 r3
 rw[Nat.add_zero] at p1 p2 p3 p4
 have hpt:w1.heap[pt]? =w.heap[pt]?:=by
  have hlt:=(zag h.top).1
  refine(r2.block pt (by simp;omega) (fun e=>?_)).trans (heap_alloc_old w o hlt)
  rcases (h.lev.ks i l hl).2 with⟨e1,_⟩|⟨g',c',cur,e1,_,hg,_⟩
  ·rw[e1] at e;cases e
  ·rw[e1] at e
   cases e
   rw[h.top] at hg
   cases hg
 have hgp:g≠pt:=by
  rintro rfl
  rcases h.lev.row.2 with⟨e1,_⟩|⟨g',c',cur,e1,_,hg,_⟩
  ·cases e1
  ·cases e1
   rw[h.top] at hg
   cases hg
 refine⟨p1,p2,?_,Zaw h.old p4 (fun b hb=>by omega),p3,?_,h.pt⟩
 ·rw[World.cell?_of_block hpt]
  exact h.cells.1
 ·rw[List.length_set,heap_setCell_other _ _ _ _ (fun e=>hgp e.symm),hpt]
  exact h.top
theorem ZhI.pushF {w0:World}{pt g N:Nat}{ls:List Lev}{w w1:World}(h:ZhI w0 pt g N ls w){i:Nat}{l:Lev}(hl:ls[i]? =some l){o:Obj}{v':Value}{t:Int}
  (r1:w1.ownsRow w0.heap.size 3 1 v' (l.fs.length+1) (l.fs.map Zm6++[Zm6 t])) (r2:(w.alloc o).grownBy w1 l.fv.ownBlock) (r3:∀b,v'.ownBlock=some b→l.fv.ownBlock=some b∨b=(w.alloc o).heap.size):
  w1.cell? ⟨g,i*2+1,none⟩=some l.fv∧w1.frozen? ⟨g,i*2+1,none⟩=false∧w1.cell? ⟨pt,0,none⟩=some (.slice (some ⟨g,0,none⟩) ls.length ls.length)∧ZhI w0 pt g N (ls.set i {l with fv:=v',fs:=l.fs++[t]}) (w1.setCell ⟨g,i*2+1,none⟩ v'):=by
 obtain⟨p1,p2,p3,p4⟩:=h.lev.pushF hl r1 r2 r3
 have hpt:w1.heap[pt]? =w.heap[pt]?:=by
  have hlt:=(zag h.top).1
  refine(r2.block pt (by simp;omega) (fun e=>?_)).trans (heap_alloc_old w o hlt)
  rcases (h.lev.fs i l hl).2 with⟨e1,_⟩|⟨g',c',cur,e1,_,hg,_⟩
  ·rw[e1] at e;cases e
  ·rw[e1] at e
   cases e
   rw[h.top] at hg
   cases hg
 have hgp:g≠pt:=by
  rintro rfl
  rcases h.lev.row.2 with⟨e1,_⟩|⟨g',c',cur,e1,_,hg,_⟩
  ·cases e1
  ·cases e1
   rw[h.top] at hg
   cases hg
 refine⟨p1,p2,?_,Zaw h.old p4 (fun b hb=>by omega),p3,?_,h.pt⟩
 ·rw[World.cell?_of_block hpt]
  exact h.cells.1
 ·rw[List.length_set,heap_setCell_other _ _ _ _ (fun e=>hgp e.symm),hpt]
  exact h.top
def Zgf (ar:Nat)(os:List Int):Prop:=∀(i:Nat) (c:Int),os[i]? =some c→0≤c∧c<(ar:Int)∧¬c∈os.take i
theorem Zj3:∀(n:Nat) (l:List Nat),l.Nodup→(∀x∈l,x<n)→l.length≤n
 |0,[],_,_=>Nat.le_refl _
 |0,x::l,_,h=>absurd (h x (List.mem_cons_self ..)) (Nat.not_lt_zero _)
 |n+1,l,hd,h=>by
  have h2:=Zj3 n (l.erase n) (hd.erase n) (fun x hx=>by
   have:=(List.Nodup.mem_erase_iff hd).1 hx
   have h3:=h x this.2
   have:=this.1
   omega)
  rw[List.length_erase] at h2
  split at h2 <;> omega
theorem Zgf.len {ar:Nat}{os:List Int}(h:Zgf ar os):os.length≤ar:=by
 have hn:(os.map Int.toNat).Nodup:=by
  refine List.pairwise_iff_getElem.2 fun i j hi hj hij=>?_
  rw[List.getElem_map,List.getElem_map]
  rw[List.length_map] at hi hj
  intro e
  have h1:=h i os[i] (zge hi)
  have h2:=h j os[j] (zge hj)
  apply h2.2.2
  have e2:os[j]=os[i]:=by omega
  rw[e2]
  exact List.mem_take_iff_getElem.2 ⟨i,by omega,rfl⟩
 have:=Zj3 ar _ hn (fun x hx=>by
  obtain⟨c,hc,rfl⟩:=List.mem_map.1 hx
  obtain⟨i,hi⟩:=List.mem_iff_getElem?.1 hc
  have:=h i c hi
  omega)
 rwa [List.length_map] at this
def Zmf (n:Nat):Int:=(n:Int)
def ZdI (ways:List (List ByteArray))(d:Nat)(cnt:Nat→Nat)(ls:List Lev):Prop:=ls.length=d∧∀(i:Nat) (l:Lev),ls[i]? =some l→l.ks=Zcc ways i (cnt i)∧l.fs=(ZfF ways i (cnt i)).map Zmf
def Zke (i n:Nat)(j:Nat):Nat:=if j<i then n+1 else n
theorem ZdI.start {ways:List (List ByteArray)}{d n:Nat}{ls:List Lev}(h:ZdI ways d (fun _=>n) ls):ZdI ways d (Zke 0 n) ls:=⟨h.1,fun i l hl=>by unfold Zke;rw[if_neg (Nat.not_lt_zero _)];exact h.2 i l hl⟩
theorem ZdI.stop {ways:List (List ByteArray)}{d n:Nat}{ls:List Lev}(h:ZdI ways d (Zke d n) ls):ZdI ways d (fun _=>n+1) ls:=⟨h.1,fun i l hl=>by
 have:=h.2 i l hl
 unfold Zke at this
 rwa [if_pos (by have:=(zgs hl).1;have:=h.1;omega)] at this⟩
theorem ZdI.skip {ways:List (List ByteArray)}{d n i:Nat}{ls:List Lev}(h:ZdI ways d (Zke i n) ls)(hf:Zbx ways i n=false):ZdI ways d (Zke (i+1) n) ls:=⟨h.1,fun j l hl=>by
 obtain⟨h1,h2⟩:=h.2 j l hl
 unfold Zke at*
 by_cases hj:j=i
 ·subst hj
  rw[if_neg (Nat.lt_irrefl _)] at h1 h2
  rw[if_pos (Nat.lt_succ_self _),Zid,Zie,if_neg (by rw[hf];simp),if_neg (by rw[hf];simp)]
  exact⟨h1,h2⟩
 ·by_cases h3:j<i
  ·rw[if_pos h3] at h1 h2
   rw[if_pos (by omega)]
   exact⟨h1,h2⟩
  ·rw[if_neg h3] at h1 h2
   rw[if_neg (by omega)]
   exact⟨h1,h2⟩⟩
theorem ZdI.at {ways:List (List ByteArray)}{d n i:Nat}{ls:List Lev}(h:ZdI ways d (Zke i n) ls)(hi:i<d):∃l,ls[i]? =some l∧l.ks=Zcc ways i n∧l.fs=(ZfF ways i n).map Zmf:=by
 obtain⟨l,hl⟩:∃l,ls[i]? =some l:=⟨_,zge (by rw[h.1];exact hi)⟩
 have:=h.2 i l hl
 unfold Zke at this
 rw[if_neg (Nat.lt_irrefl _)] at this
 exact⟨l,hl,this⟩
theorem ZdI.push {ways:List (List ByteArray)}{d n i:Nat}{ls:List Lev}{l:Lev}{kv fv:Value}(h:ZdI ways d (Zke i n) ls)(hl:ls[i]? =some l)(hf:Zbx ways i n=true):ZdI ways d (Zke (i+1) n) (ls.set i {kv:=kv,fv:=fv,ks:=l.ks++[ZbP ways i n],fs:=l.fs++[Zmf (wid ways (i+1) n)]}):=⟨by rw[List.length_set];exact h.1,fun j a ha=>by
 rcases Lev.get_set ha with⟨rfl,rfl⟩|⟨hne,ha2⟩
 ·obtain⟨h1,h2⟩:=h.2 j l hl
  unfold Zke at*
  rw[if_neg (Nat.lt_irrefl _)] at h1 h2
  rw[if_pos (Nat.lt_succ_self _),Zid,Zie,if_pos hf,if_pos hf,List.map_append]
  exact⟨by rw[h1],by rw[h2];rfl⟩
 ·obtain⟨h1,h2⟩:=h.2 j a ha2
  unfold Zke at*
  by_cases h3:j<i
  ·rw[if_pos h3] at h1 h2
   rw[if_pos (by omega)]
   exact⟨h1,h2⟩
  ·rw[if_neg h3] at h1 h2
   rw[if_neg (by omega)]
   exact⟨h1,h2⟩⟩
theorem ZdI.next {ways:List (List ByteArray)}{d n i:Nat}{ls:List Lev}(h:ZdI ways d (Zke i n) ls)(hw:ZcE d ways)(hi:i<d)(hn:n≤ways.length):(∀l,ls[i+1]? =some l→Zmf (wid ways (i+1) n)=(l.ks.length:Int))∧(ls.length≤i+1→Zmf (wid ways (i+1) n)=(n:Int)):=by
 refine⟨fun l hl=>?_,fun hl=>?_⟩
 ·obtain⟨h1,_⟩:=h.2 _ l hl
  unfold Zke at h1
  rw[if_neg (by omega)] at h1
  rw[h1,ZcM]
  rfl
 ·rw[h.1] at hl
  rw[hw.wid_d (by omega) hn]
  rfl
def Zel (ways:List (List ByteArray))(i m:Nat):Bool:=decide (m=0)||!decide ((Za9 ways (m-1)).take i=(Za9 ways m).take i)
theorem Zlb (ways:List (List ByteArray))(m:Nat):Zel ways 0 m=decide (m=0):=by simp[Zel]
theorem Zlc {ways:List (List ByteArray)}{i m:Nat}{x y:ByteArray}(hx:(Za9 ways (m-1))[i]? =some x)(hy:(Za9 ways m)[i]? =some y)(hm:m≠0)(hf:Zel ways i m=false):Zbx ways i m= !decide (x=y):=by
 unfold Zel at hf
 simp only[Bool.or_eq_false_iff,decide_eq_false_iff_not,Bool.not_eq_false',decide_eq_true_eq] at hf
 unfold Zbx
 rw[ZaA hx,ZaA hy,hf.2]
 simp[hm]
theorem Zpq {ways:List (List ByteArray)}{i m:Nat}(h:Zel ways i m=true):Zbx ways i m=true:=by
 unfold Zel at h
 unfold Zbx
 simp only[Bool.or_eq_true,decide_eq_true_eq,Bool.not_eq_true',decide_eq_false_iff_not] at*
 rcases h with h|h
 ·exact .inl h
 ·exact .inr fun e=>h (Zj2 e (Nat.le_succ i))
def Zem (ways:List (List ByteArray))(d k:Nat)(ls:List Lev):Prop:=ls.length=d∧∀(i:Nat) (l:Lev),ls[i]? =some l→l.ks=Zcc ways i ways.length∧l.fs=(if i<k then ZfF ways i ways.length++[wid ways (i+1) ways.length] else ZfF ways i ways.length).map Zmf
theorem ZdI.toEnd {ways:List (List ByteArray)}{d:Nat}{ls:List Lev}(h:ZdI ways d (fun _=>ways.length) ls):Zem ways d 0 ls:=⟨h.1,fun i l hl=>by rw[if_neg (Nat.not_lt_zero _)];exact h.2 i l hl⟩
theorem Zem.at {ways:List (List ByteArray)}{d k:Nat}{ls:List Lev}(h:Zem ways d k ls)(hk:k<d):∃l,ls[k]? =some l∧l.ks=Zcc ways k ways.length∧l.fs=(ZfF ways k ways.length).map Zmf:=by
 obtain⟨l,hl⟩:∃l,ls[k]? =some l:=⟨_,zge (by rw[h.1];exact hk)⟩
 have:=h.2 k l hl
 rw[if_neg (Nat.lt_irrefl _)] at this
 exact⟨l,hl,this⟩
theorem Zem.next {ways:List (List ByteArray)}{d k:Nat}{ls:List Lev}(h:Zem ways d k ls)(hw:ZcE d ways):(∀l,ls[k+1]? =some l→Zmf (wid ways (k+1) ways.length)=(l.ks.length:Int))∧(ls.length≤k+1→Zmf (wid ways (k+1) ways.length)=(ways.length:Int)):=by
 refine⟨fun l hl=>?_,fun hl=>?_⟩
 ·rw[(h.2 _ l hl).1,ZcM]
  rfl
 ·rw[h.1] at hl
  rw[hw.wid_d (by omega) (Nat.le_refl _)]
  rfl
theorem Zem.push {ways:List (List ByteArray)}{d k:Nat}{ls:List Lev}{l:Lev}{fv:Value}(h:Zem ways d k ls)(hl:ls[k]? =some l):Zem ways d (k+1) (ls.set k {l with fv:=fv,fs:=l.fs++[Zmf (wid ways (k+1) ways.length)]}):=⟨by rw[List.length_set];exact h.1,fun j a ha=>by
 rcases Lev.get_set ha with⟨rfl,rfl⟩|⟨hne,ha2⟩
 ·obtain⟨h1,h2⟩:=h.2 j l hl
  rw[if_neg (Nat.lt_irrefl _)] at h2
  rw[if_pos (Nat.lt_succ_self _),List.map_append]
  exact⟨h1,by rw[h2];rfl⟩
 ·obtain⟨h1,h2⟩:=h.2 j a ha2
  refine⟨h1,?_⟩
  rw[h2]
  by_cases h3:j<k
  ·rw[if_pos h3,if_pos (by omega)]
  ·rw[if_neg h3,if_neg (by omega)]⟩
structure ZbV (w:World)(pt d:Nat)(ways:List (List ByteArray)):Prop where
 top:∃g,w.cell? ⟨pt,0,none⟩=some (.slice (some ⟨g,0,none⟩) d d)∧∀i,i<d→∃ka kc fa fc,w.cell? ⟨g,i*2,none⟩=some (.slice ka (wid ways i ways.length) kc)∧w.cell? ⟨g,i*2+1,none⟩=some (.slice fa (wid ways i ways.length+1) fc)∧Zai w ka (wid ways i ways.length) (Zcc ways i ways.length)∧(ka=none→wid ways i ways.length=0∧kc=0)∧wid ways i ways.length≤kc∧ZdF w fa (wid ways i ways.length+1) ((ZfF ways i ways.length++[wid ways (i+1) ways.length]).map Zmf)
 c1:w.cell? ⟨pt,1,none⟩=some (.int .i64 (ways.length:Int))
 c2:w.cell? ⟨pt,2,none⟩=some (.bool true)
theorem ZbV.ext {w w':World}{pt d:Nat}{ways:List (List ByteArray)}(h:ZbV w pt d ways)(e:Ext w w'):ZbV w' pt d ways:=by
 obtain⟨⟨g,h1,h2⟩,h3,h4⟩:=h
 refine⟨⟨g,Zac e h1,fun i hi=>?_⟩,Zac e h3,Zac e h4⟩
 obtain⟨ka,kc,fa,fc,a1,a2,a3,a4,a5,a6⟩:=h2 i hi
 exact⟨ka,kc,fa,fc,Zac e a1,Zac e a2,a3.keep e,a4,a5,a6.keep e⟩
theorem Zpr {lo pt g:Nat}{ls:List Lev}{w:World}{ways:List (List ByteArray)}{d:Nat}(h:ZdH lo w g ls)(ht:w.heap[pt]? =some (.cells #[.slice (some ⟨g,0,none⟩) ls.length ls.length,.int .i64 (ways.length:Int),.bool true] 223 (0,0)))(he:Zem ways d d ls):ZbV w pt d ways:=by
 obtain⟨c0,c1,c2⟩:w.cell? ⟨pt,0,none⟩=some (.slice (some ⟨g,0,none⟩) ls.length ls.length)∧w.cell? ⟨pt,1,none⟩=some (.int .i64 (ways.length:Int))∧w.cell? ⟨pt,2,none⟩=some (.bool true):=by simp[World.cell?,ht]
 rw[he.1] at c0
 refine⟨⟨g,c0,fun i hi=>?_⟩,c1,c2⟩
 obtain⟨l,hl⟩:∃l,ls[i]? =some l:=⟨_,zge (by rw[he.1];exact hi)⟩
 obtain⟨e1,e2⟩:=he.2 i l hl
 rw[if_pos hi] at e2
 have k1:=h.ks i l hl
 have f1:=h.fs i l hl
 obtain⟨x1,x2⟩:=h.cell hl
 obtain⟨ka,kc,ek,hkc⟩:=Zag k1
 obtain⟨fa,fc,ef,_⟩:=Zag f1
 rw[ek] at k1 x1
 rw[ef] at f1 x2
 have l1:l.ks.length=wid ways i ways.length:=by rw[e1,ZcM]
 have l2:l.fs.length=wid ways i ways.length+1:=by rw[e2,List.length_map,List.length_append,ZdG];rfl
 have k2:=ZaL k1 (Za4 k1).1
 have f2:=ZqW f1 (Za4 f1).1
 have k3:=(ZaF k1).2
 rw[l1,e1] at k2
 rw[l2,e2] at f2
 rw[l1] at x1 hkc k3
 rw[l2] at x2
 exact⟨ka,kc,fa,fc,x1,x2,k2,k3,hkc,f2⟩
theorem ZhI.doneB {w0:World}{pt g:Nat}{ls:List Lev}{w:World}{ways:List (List ByteArray)}{d:Nat}(h:ZhI w0 pt g ways.length ls w)(he:Zem ways d d ls)(B:Nat)(hB:B≤w0.heap.size):∀w2,Zah (fun b=>b<B) w w2→ZbV w2 pt d ways:=fun w2 hb=>by
 have hp:=(zag h.top).1
 have hpt:=h.pt
 exact Zpr (lo:=w0.heap.size) ⟨hb.own h.lev.row (fun b e=>by have:=(h.lev.row.lt b e).1;omega),fun i l hl=>hb.own (h.lev.ks i l hl) (fun b e=>by have:=((h.lev.ks i l hl).lt b e).1;omega),fun i l hl=>hb.own (h.lev.fs i l hl) (fun b e=>by have:=((h.lev.fs i l hl).lt b e).1;omega),h.lev.kd,h.lev.fd⟩ ((hb.block pt hp (by omega)).trans h.top) he
def Zgg (ar:Nat)(os:List Int)(rs:List (List ByteArray))(w:World)(e:Ending)(w':World):Prop:=
 (¬Zgf ar os∧e=.returned (.tuple #[.pointer none,.int .i64 2])∧w'=w)∨
 (Zgf ar os∧∃pt ways,e=.returned (.tuple #[.pointer (some ⟨pt,0,none⟩),.int .i64 0])∧w.heap.size≤pt∧pt<w'.heap.size∧(∀w2,Zah (fun b=>b<w.heap.size) w' w2→ZbV w2 pt os.length ways)∧Ext w w'∧ZcE os.length ways∧(∀x,x∈ways↔∃r∈rs,ZcF os r=x)∧ways.length≤rs.length)
theorem Zq0:(Tryz.prog.info? 226).map (fun i=>(i.zero,i.size,i.bytes))=some (some (.agg #[.slice none 0 0,.slice none 0 0]),2,48):=by kernel_rfl
theorem ZgJ:(Tryz.prog.info? 3).map (fun i=>(i.zero,i.size,i.bytes))=some (some (.int .i64 0),1,8):=by kernel_rfl
def Zuz:Lev:=⟨.slice none 0 0,.slice none 0 0,[],[]⟩
theorem Zq1 (d:Nat):(madeCells (Value.agg #[.slice none 0 0,.slice none 0 0]).cells (d*2)).toList=(List.replicate d Zuz).flatMap Zkd:=by
 have e:(List.replicate d Zuz).flatMap Zkd=List.replicate (d*2) (.slice none 0 0):=by
  induction d with
  |zero=>rfl
  |succ d ih=>rw[List.replicate_succ,List.flatMap_cons,ih,Nat.succ_mul,Nat.add_comm,←List.replicate_append_replicate];rfl
 rw[e]
 apply List.ext_getElem
 ·simp[madeCells]
 ·intro i h1 h2
  have hc:(Value.agg #[.slice none 0 0,.slice none 0 0]).cells=#[.slice none 0 0,.slice none 0 0]:=by kernel_rfl
  have h3:i%2=0∨i%2=1:=by omega
  simp[madeCells,hc]
  rcases h3 with h3|h3 <;> simp[h3]
theorem ZdU {ops:Array Oper}{o:Oper}{a:Act}{K:Act→World→Prop}{Q:Exit→Act→World→Prop}{E:Prop}(W0:World)(z:Int)(base:Nat)(fa:Option Addr)(n fc:Nat)(l:List Int)(hown:W0.ownsRow base 3 1 (.slice fa n fc) n (l.map Zm6))(hn:n≤1000000)(hbase:base≤W0.heap.size)(hgd:o.guard=none)(s x:Operand)
  (ho:o.op=.call {callee:=.builtin .append,args:=#[s,x],argTypes:=#[161,161]}) (hs:a.eval s=.slice fa n fc) (hx:a.eval x=.slice (some ⟨W0.heap.size,0,none⟩) 1 1)
  (h:∀g cap w',w'.ownsRow base 3 1 (.slice (some ⟨g,0,none⟩) (n+1) cap) (n+1) (l.map Zm6++[Zm6 z])→(W0.alloc (.cells #[.int .i64 z] 3)).grownBy w' (Value.slice fa n fc).ownBlock→((Value.slice fa n fc).ownBlock=some g∨g=(W0.alloc (.cells #[.int .i64 z] 3)).heap.size)→K (a.put o.dst (.slice (some ⟨g,0,none⟩) (n+1) cap)) w'):
  if Region.wanted o (yielded ops a.tmps)=true then Oper.wp Tryz.prog o a (W0.alloc (.cells #[.int .i64 z] 3)) K Q else E:=by
 obtain⟨n0,hn0,nz0,nz1,nz2⟩:=info_parts ZgJ
 exact step_append_lies _ hgd s x 161 ho base 3 n0 (.int .i64 0) 1 8 Tryz.underlying161 hn0 nz0 nz1 nz2 rfl (by decide) _ n (l.map Zm6) hs (hown.alloc _) ⟨W0.heap.size,0,none⟩ 1 1 [.int .i64 z] hx rfl (Zgt W0 _ _) (by simp[Value.oneCell']) (by omega) (by unfold maxLen;omega) (by omega) (by simp;omega) _ rfl fun g cap w1 hown1 hgrow hat _=>h g cap w1 hown1 hgrow hat
theorem Zq2 {k:Nat}(hk:k≤1000000):IntKind.i64.wrap ((k:Int)+1)=(k:Int)+1:=by
 rw[IntKind.wrap_i64]
 omega
theorem ZgK (n:Nat):((n:Int)==0)=decide (n=0):=by
 by_cases h:n=0 <;> simp[h]
theorem Zq3 (lo pb ar:Nat)(rs:List (List ByteArray))(os:List Int)(ao:Option Addr)(d co:Nat)(w:World)(h:Zay w lo pb ar rs)(hn:rs.length≤1000000)(hr:∀r∈rs,r.length=ar)(har:ar≤64)(ho:ZdF w ao d os)(hdc:d≤co):
  Calls Tryz.prog 131 #[.pointer (some ⟨pb,0,none⟩),.slice ao d co] w (Zgg ar os rs w):=by
 have H:=zh h
 have HR:=zh hr
 have HO:=zh ho
 have hdm:d≤9223372036854775807:=ho.1
 have hol:os.length=d:=ho.2.1
 have HOL:=zh hol
 clear h hr ho hol
 go_enter Tryz.func131,Tryz.ntmps131
 go_wp2
 go_loopw [21] (fun v wj=>∃k:Nat,k≤d∧v=.int .i64 (k:Int)∧wj=w∧∀(i:Nat) (c:Int),i<k→os[i]? =some c→0≤c∧c<(ar:Int)∧¬c∈os.take i) (fun v _=>d-(intOf v).toNat)
 case atStart=>exact⟨0,by omega,rfl,rfl,fun i c hi=>absurd hi (Nat.not_lt_zero _)⟩
 case round=>
  obtain⟨k,hk,rfl,rfl,hq⟩:=hrel
  have HQ:=zh hq
  clear hq
  by_cases hlt:k<d
  ·have hki:(k:Int)<(d:Int):=by omega
   obtain⟨c,b1,o1,hx,rfl,h1⟩:=HO.out.2.at hlt
   have HX:=zh hx
   have g1:wr.cell? ⟨b1,o1+k,none⟩=some (.int .i64 c):=by simpa [Zk5] using h1
   have OT:=zh (HO.out.take (k:=k) hk)
   have hkco:(k:Int)≤(co:Int):=by omega
   have hkd:(k:Int)≤(d:Int):=by omega
   obtain⟨q,hq⟩:∃q,decide (c∈os.take k)=q:=⟨_,rfl⟩
   have CT:Hid (Calls Tryz.prog 149 #[.slice (some ⟨b1,o1,none⟩) k co,.int .i64 c] wr fun e w'=>e=.returned (.bool q)∧w'=wr):=by
    rw[←hq]
    exact Zm7 _ _ _ _ _ _ OT.out
   have HC:=zh hq
   have BAD:Hid (¬(0≤c∧c<(ar:Int)∧q=false)→Zgg ar os rs wr (.returned (.tuple #[.pointer none,.int .i64 2])) wr):=fun hb=>.inl ⟨fun hok=>hb (by
    have:=hok k c HX.out
    refine⟨this.1,this.2.1,?_⟩
    rw[←HC.out]
    simpa using this.2.2),rfl,rfl⟩
   clear hx h1 hq
   by_cases hc0:c<0
   ·have BD:=zh (BAD.out (fun h=>by omega))
    clear BAD
    go_wp2_with (first
     |(go_at_call 15;(with_reducible refine(ZgP lo pb ar rs _ H.out).mono ?_);rintro e w1 ⟨rfl,hw1⟩;obtain rfl:=hw1.symm)
     |(go_at_call 149;(with_reducible refine CT.out.mono ?_);rintro e w1 ⟨rfl,hw1⟩;obtain rfl:=hw1.symm))
    go_ret2
    exact BD.out
   ·by_cases hca:c<(ar:Int)
    ·have hca2:¬(ar:Int)≤c:=by omega
     cases q with
     |true=>
      have BD:=zh (BAD.out (fun h=>by simp at h))
      clear BAD
      go_wp2_with (first
       |(go_at_call 15;(with_reducible refine(ZgP lo pb ar rs _ H.out).mono ?_);rintro e w1 ⟨rfl,hw1⟩;obtain rfl:=hw1.symm)
       |(go_at_call 149;(with_reducible refine CT.out.mono ?_);rintro e w1 ⟨rfl,hw1⟩;obtain rfl:=hw1.symm))
      go_ret2
      exact BD.out
     |false=>
      have NX:Hid (∀(i:Nat) (c:Int),i<k+1→os[i]? =some c→0≤c∧c<(ar:Int)∧¬c∈os.take i):=fun i c' hi hc'=>by
       rcases Nat.lt_or_ge i k with h1|h1
       ·exact HQ.out i c' h1 hc'
       ·obtain rfl:i=k:=by omega
        have:=HX.out.symm.trans hc'
        cases this
        exact⟨by omega,hca,by have:=HC.out;simpa using this⟩
      clear BAD
      go_wp2_with (first
       |(go_at_call 15;(with_reducible refine(ZgP lo pb ar rs _ H.out).mono ?_);rintro e w1 ⟨rfl,hw1⟩;obtain rfl:=hw1.symm)
       |(go_at_call 149;(with_reducible refine CT.out.mono ?_);rintro e w1 ⟨rfl,hw1⟩;obtain rfl:=hw1.symm))
      go_roundw
      case rel=>exact⟨k+1,by omega,by go_num,by first|trivial|rfl,NX.out⟩
      case measure=>simp[intOf];omega
    ·have hca2:(ar:Int)≤c:=by omega
     have BD:=zh (BAD.out (fun h=>hca h.2.1))
     clear BAD
     go_wp2_with (first
      |(go_at_call 15;(with_reducible refine(ZgP lo pb ar rs _ H.out).mono ?_);rintro e w1 ⟨rfl,hw1⟩;obtain rfl:=hw1.symm)
      |(go_at_call 149;(with_reducible refine CT.out.mono ?_);rintro e w1 ⟨rfl,hw1⟩;obtain rfl:=hw1.symm))
     go_ret2
     exact BD.out
  ·obtain rfl:k=d:=by omega
   obtain⟨wb,rfl⟩:∃wb:World,wb=wr:=⟨_,rfl⟩
   have hok:Zgf ar os:=fun i c hc=>HQ.out i c (by have:=(zgs hc).1;have:=HOL.out;omega) hc
   have hd64:k≤64:=by have:=hok.len;have:=HOL.out;omega
   have PR:=zh (Zk9 lo pb ar rs os ao k co wb H.out hn HR.out har HO.out (fun c hc=>by
    obtain⟨i,hi⟩:=List.mem_iff_getElem?.1 hc
    have:=hok i c hi
    exact⟨this.1,this.2.1⟩) hd64)
   have HOK:=zh hok
   obtain⟨l0,hl0,lz0,lz1,lz2⟩:=info_parts Zq0
   obtain⟨j0,hj,yz0,yz1,yz2⟩:=info_parts ZbI
   obtain⟨n0,hn0,nz0,nz1,nz2⟩:=info_parts ZgJ
   have hge:¬(k:Int)<(k:Int):=by omega
   have MK:Hid (∀w2:World,∃wm,(Instr.makeSlice 221 (.int .i64 (k:Int)) (.int .i64 (k:Int))).run Tryz.prog w2=.ok (.slice (some ⟨w2.heap.size,0,none⟩) k k) wm∧wm.ownsRow w2.heap.size 226 2 (.slice (some ⟨w2.heap.size,0,none⟩) k k) k (madeCells (Value.agg #[.slice none 0 0,.slice none 0 0]).cells (k*2)).toList∧w2.grownBy wm none):=fun w2=>run_make_full (P:=Tryz.prog) w2 w2.heap.size 221 226 l0 (.agg #[.slice none 0 0,.slice none 0 0]) 2 Tryz.underlying221 hl0 lz0 lz1 .i64 .i64 k (by rw[lz2];omega) (by unfold maxLen;omega) (Nat.le_refl _)
   clear hok HQ
   go_wp2_with (first
    |(go_at_call 150;(with_reducible refine PR.out.mono ?_);rintro e w2 ⟨a,c,us,ways,rfl,r2,at2,e2,hw2,hm2,hl2⟩;obtain⟨wm,hm,om,gm⟩:=MK.out w2))
   refine Zba (fun W3 hW3=>?_)
   have hol:=HOL.out
   rw[hol] at hw2
   have HW2:=zh hw2
   have HM2:=zh hm2
   have HL2:=zh hl2
   have E2:=zh e2
   have TS0:Hid (ZhI w2 wm.heap.size w2.heap.size ways.length (List.replicate k Zuz) W3):=by
    have em:Ext w2 wm:=⟨gm.os,gm.tape,gm.output,gm.size,fun i hi=>gm.block i hi (by simp)⟩
    have hget:∀{i:Nat} {l:Lev},(List.replicate k Zuz)[i]? =some l→l=Zuz:=fun {i l} hl=>by
     rw[List.getElem?_replicate] at hl
     split at hl
     ·cases hl;rfl
     ·cases hl
    rw[Zq1] at om
    refine⟨by rw[hW3];exact Zab em _,⟨?_,fun i l hl=>?_,fun i l hl=>?_,fun i j a b _ ha _=>?_,fun i j a b _ ha _=>?_⟩,?_,gm.size⟩
    ·rw[List.length_replicate,hW3]
     exact om.alloc _
    ·rw[hget hl]
     exact World.ownsRow_nil _ _ _ _
    ·rw[hget hl]
     exact World.ownsRow_nil _ _ _ _
    ·rw[hget ha]
     exact .inl rfl
    ·rw[hget ha]
     exact .inl rfl
    ·rw[List.length_replicate,hW3]
     exact heap_alloc_new wm _
   have WAY:Hid (∀n,n<ways.length→∃g7 a7 c7,a=some ⟨g7,0,none⟩∧w2.cell? ⟨g7,n,none⟩=some (.slice a7 k c7)∧Zai w2 a7 k (Za9 ways n)):=fun n hn7=>by
    obtain⟨x1,x2⟩:=HW2.out.at hn7
    obtain⟨v,hv⟩:∃v,us[n]? =some v:=⟨_,zge (by rw[at2.1];exact hn7)⟩
    have ow:=at2.2 n _ v x1 hv
    obtain⟨a7,c7,rfl,_⟩:=Zag ow
    have st:=ZaL ow (Za4 ow).1
    rw[x2] at st hv
    obtain⟨g7,p7,e7,_⟩:=Za0 r2 (by omega)
    cases e7
    have:=r2.cells (g:=g7) rfl n _ hv
    rw[Addr.add_lit,Nat.zero_add] at this
    exact⟨g7,a7,c7,rfl,this,st⟩
   have hNm:ways.length≤1000000:=by omega
   clear hW3 hm om gm r2 at2 e2 hw2 hm2 hl2 MK PR hol
   go_loopw [54] (fun v wj=>∃n:Nat,n≤ways.length∧v=.int .i64 (n:Int)∧∃ls,ZhI w2 wm.heap.size w2.heap.size ways.length ls wj∧ZdI ways k (fun _=>n) ls) (fun v _=>ways.length-(intOf v).toNat)
   case atStart=>exact⟨0,by omega,rfl,_,TS0.out,List.length_replicate ..,fun i l hl=>by
    rw[List.getElem?_replicate] at hl
    split at hl
    ·cases hl
     exact⟨rfl,rfl⟩
    ·cases hl⟩
   case round=>
    obtain⟨n,hnN,rfl,ls,ts,lv⟩:=hrel
    have TS:=zh ts
    have LV:=zh lv
    clear ts lv
    obtain⟨wo,rfl⟩:∃wo:World,wo=wr:=⟨_,rfl⟩
    by_cases hlt:n<ways.length
    ·have hni:(n:Int)<(ways.length:Int):=by omega
     obtain⟨g7,a7,c7,rfl,h7,s7⟩:=WAY.out n hlt
     have g1:=Zac TS.out.old h7
     have S7:=zh s7
     clear h7 s7
     go_wp2
     go_loopw [12,63] (fun v12 v63 wj=>∃i:Nat,i≤k∧v63=.int .i64 (i:Int)∧v12=.bool (Zel ways i n)∧∃ls,ZhI w2 wm.heap.size w2.heap.size ways.length ls wj∧ZdI ways k (Zke i n) ls) (fun _ v63 _=>k-(intOf v63).toNat)
     case atStart=>exact⟨0,by omega,rfl,by rw[Zlb,ZgK],ls,TS.out,LV.out.start⟩
     case round=>
      obtain⟨i,hik,rfl,rfl,ls,ts,lv⟩:=hrel
      have TS:=zh ts
      have LV:=zh lv
      clear ts lv
      by_cases hil:i<k
      ·have hii:(i:Int)<(k:Int):=by omega
       obtain⟨x,b1,o1,hx,rfl,h1⟩:=S7.out.2.at hil
       have HX:=zh hx
       have g2:wr.cell? ⟨b1,o1+i,none⟩=some (.string x):=Zac TS.out.old (by simpa [Zdg] using h1)
       clear hx h1
       have hKX:Hid (ZbP ways i n=x):=by show _=_;unfold ZbP;rw[HX.out];rfl
       go_upto_region 18 with (fail)
       go_cut [12] (fun v12 wc=>wc=wr∧v12=.bool (Zbx ways i n))
       case first=>
        obtain⟨fl,hfl⟩:∃fl,Zel ways i n=fl:=⟨_,rfl⟩
        rw[hfl]
        cases fl with
        |true=>
         go_wp2
         go_meet
         exact⟨rfl,by rw[Zpq hfl]⟩
        |false=>
         have hn0:n≠0:=by
          rintro rfl
          simp[Zel] at hfl
         obtain⟨m,rfl⟩:∃m,n=m+1:=⟨n-1,by omega⟩
         obtain⟨g8,a8,c8,e8,h8,s8⟩:=WAY.out m (by omega)
         cases e8
         obtain⟨y,b3,o3,hy,rfl,h3⟩:=s8.2.at hil
         have g3:=Zac TS.out.old h8
         have g4:wr.cell? ⟨b3,o3+i,none⟩=some (.string y):=Zac TS.out.old (by simpa [Zdg] using h3)
         have hst:Zbx ways i (m+1)= !decide (y=x):=Zlc (m:=m+1) (by simpa using hy) HX.out hn0 hfl
         obtain⟨q,hq⟩:∃q,(y.toList==x.toList)=q:=⟨_,rfl⟩
         have hq2:decide (y=x)=q:=by rw[←hq,Zbr]
         rw[hq2] at hst
         have HST:=zh hst
         have m1:IntKind.i64.wrap (m:Int)=(m:Int):=Zs9 (by omega)
         have m2:(m:Int)<(ways.length:Int):=by omega
         clear hst hq2 hfl hn0
         go_wp2
         go_meet
         exact⟨rfl,by rw[HST.out]⟩
       case rest=>
        obtain⟨rfl,rfl⟩:=hcut
        obtain⟨fb,hfb⟩:∃fb,Zbx ways i n=fb:=⟨_,rfl⟩
        rw[hfb]
        cases fb with
        |false=>
         have LS:=zh (LV.out.skip hfb)
         have HFT:Hid (Zel ways (i+1) n=false):=hfb
         clear hfb
         go_wp2
         go_roundw
         case rel=>exact⟨i+1,by omega,by go_num,by rw[HFT.out],ls,TS.out,LS.out⟩
         case measure=>simp[intOf];omega
        |true=>
         have HFT:Hid (Zel ways (i+1) n=true):=hfb
         obtain⟨⟨kv,fv,ks,fs⟩,hl,hks,hfs⟩:=LV.out.at hil
         have HL:=zh hl
         have HKS:=zh hks
         have HFS:=zh hfs
         have lsl:ls.length=k:=LV.out.1
         obtain⟨c0,_,_⟩:=TS.out.cells
         rw[lsl] at c0
         obtain⟨k1,f1⟩:=TS.out.lev.cell hl
         have kr:=TS.out.lev.ks i _ hl
         have fr:=TS.out.lev.fs i _ hl
         dsimp only at k1 f1 kr fr hks hfs
         obtain⟨ka,kc,rfl,_⟩:=Zag kr
         obtain⟨fa,fc,rfl,_⟩:=Zag fr
         have KR:=zh (kr.alloc (.cells #[.string x] 9))
         have kl:ks.length≤1000000:=by rw[hks,ZcM];have:=Zib ways i n;omega
         have flen:fs.length≤1000000:=by rw[hfs,List.length_map,ZdG];have:=Zib ways i n;omega
         have hsz3:=TS.out.old.size
         have n3:=zh (Zgt wc (.string x) 9)
         have NX:=zh (LV.out.next HW2.out hil hnN)
         have LP:=zh (fun kv fv=>LV.out.push (kv:=kv) (fv:=fv) hl hfb)
         have LSL:=zh lsl
         clear hl hks hfs kr fr hfb
         have KX:=zh hKX.out
         go_upto_region 21 with (fail)
         go_upto_region 22 with (at_builtin;refine ZcA _ rfl _ _ 54 rfl w2.heap.size 9 j0 (.string ⟨#[]⟩) 1 16 Tryz.underlying54 hj yz0 yz1 yz2 rfl (by decide) ka ks.length kc (ks.map Value.string) rfl KR.out ⟨wc.heap.size,0,none⟩ 1 [.string x] rfl rfl n3.out (by simp[Value.oneCell']) (by unfold maxLen;omega) (by omega) (by simp;omega) ?_;intro g9 c9 w9 q1 q2 q3 q4;obtain⟨p1,p2,p3,p4⟩:=TS.out.pushK (v':=.slice (some ⟨g9,0,none⟩) (ks.length+1) c9) HL.out q1 q2 (fun b e=>by cases e;exact q3))
         refine Zba (fun W5 hW5=>?_)
         have TS5:Hid (ZhI w2 wm.heap.size w2.heap.size ways.length (ls.set i {kv:=.slice (some ⟨g9,0,none⟩) (ks.length+1) c9,fv:=.slice fa fs.length fc,ks:=ks++[x],fs:=fs}) W5.drew):=by show ZhI _ _ _ _ _ _;rw[hW5];exact p4.ext (Zaf zbr)
         have hl5:(ls.set i {kv:=.slice (some ⟨g9,0,none⟩) (ks.length+1) c9,fv:=.slice fa fs.length fc,ks:=ks++[x],fs:=fs})[i]? =some {kv:=.slice (some ⟨g9,0,none⟩) (ks.length+1) c9,fv:=.slice fa fs.length fc,ks:=ks++[x],fs:=fs}:=List.getElem?_set_self (by rw[LSL.out];exact hil)
         have HL5:=zh hl5
         have d0:=TS5.out.cells.1
         rw[List.length_set,LSL.out] at d0
         have f5:=(TS5.out.lev.cell hl5).2
         dsimp only at f5
         have FR5:=zh (TS5.out.lev.fs i _ hl5)
         have ec:(i:Int)+1=((i+1:Nat):Int):=by omega
         obtain⟨z,hz⟩:∃z,Zmf (wid ways (i+1) n)=z:=⟨_,rfl⟩
         have HZ:=zh hz
         have WD:Hid (Calls Tryz.prog 151 #[.pointer (some ⟨wm.heap.size,0,none⟩),.int .i64 ((i:Int)+1),.int .i64 (n:Int)] W5.drew fun e w'=>e=.returned (.int .i64 z)∧w'=W5.drew):=by
          rw[←HZ.out,ec]
          exact TS5.out.width (fun l hl=>NX.out.1 l (by rwa [List.getElem?_set_ne (by omega)] at hl)) (fun hl=>NX.out.2 (by rwa [List.length_set] at hl))
         have hsz5:Hid (w2.heap.size≤W5.drew.heap.size):=TS5.out.old.size
         clear hW5 p1 p2 p3 p4 q1 q2 q3 q4 k1 f1 c0 hz hl5 ec
         have f6:(W5.alloc (.cells #[.int .i64 z] 3)).cell? ⟨w2.heap.size,i*2+1,none⟩=some (.slice fa fs.length fc):=Zac (Zab (Below.refl _ W5) _) (show W5.cell? _=_ from f5)
         have wi:IntKind.i64.wrap ((i:Int)+1)=(i:Int)+1:=Zq2 (by omega)
         go_region_law (first
          |(refine ZdU W5.drew z w2.heap.size fa fs.length fc fs FR5.out flen hsz5.out (by rfl) _ _ (by rfl) (by rfl) (by rfl) ?_;intro g6 c6 w6 q1 q2 q3;obtain⟨p1,p2,p3,p4⟩:=TS5.out.pushF (t:=z) (v':=.slice (some ⟨g6,0,none⟩) (fs.length+1) c6) HL5.out q1 q2 (fun b e=>by cases e;exact q3);dsimp only at p1;have p4:=zh p4;clear q1 q2 q3)
          |(go_simp;go_wp2_with (go_at_call 151;(with_reducible refine WD.out.mono ?_);rintro e w1 ⟨rfl,hw1⟩;obtain rfl:=hw1.symm))
          |fail)
         all_goals
          go_wp2
          go_roundw
          case rel=>
           have e9:=LP.out (.slice (some ⟨g9,0,none⟩) (ks.length+1) c9) (.slice (some ⟨g6,0,none⟩) (fs.length+1) c6)
           have p5:=p4.out
           dsimp only at e9 p5
           rw[KX.out,HZ.out] at e9
           rw[List.set_set] at p5
           exact⟨i+1,by omega,by go_num,by rw[HFT.out],_,p5,e9⟩
          case measure=>simp[intOf];omega
      ·obtain rfl:i=k:=by omega
       have hge2:¬(i:Int)<(i:Int):=by omega
       go_wp2
       go_roundw
       case rel=>exact⟨n+1,by omega,by go_num,ls,TS.out,LV.out.stop⟩
       case measure=>simp[intOf];omega
    ·obtain rfl:n=ways.length:=by omega
     have hge2:¬(ways.length:Int)<(ways.length:Int):=by omega
     obtain⟨c0,_,_⟩:=TS.out.cells
     rw[LV.out.1] at c0
     have LE:=zh LV.out.toEnd
     go_wp2
     go_loopw [119] (fun v wj=>∃i:Nat,i≤k∧v=.int .i64 (i:Int)∧∃ls,ZhI w2 wm.heap.size w2.heap.size ways.length ls wj∧Zem ways k i ls) (fun v _=>k-(intOf v).toNat)
     case atStart=>exact⟨0,by omega,rfl,ls,TS.out,LE.out⟩
     case round=>
      obtain⟨i,hik,rfl,ls,ts,lv⟩:=hrel
      have TS:=zh ts
      have LV:=zh lv
      clear ts lv c0
      by_cases hil:i<k
      ·have hii:(i:Int)<(k:Int):=by omega
       obtain⟨⟨kv,fv,ks,fs⟩,hl,hks,hfs⟩:=LV.out.at hil
       have HL:=zh hl
       have lsl:ls.length=k:=LV.out.1
       have TS5:=zh (TS.out.ext (Zaf zbr))
       have d0:=TS5.out.cells.1
       rw[lsl] at d0
       have f5:=(TS5.out.lev.cell hl).2
       have fr:=TS.out.lev.fs i _ hl
       dsimp only at f5 fr hks hfs
       obtain⟨fa,fc,rfl,_⟩:=Zag fr
       have FR5:Hid (wr.drew.ownsRow w2.heap.size 3 1 (.slice fa fs.length fc) fs.length (fs.map Zm6)):=Zar fr (Zaf zbr)
       have flen:fs.length≤1000000:=by rw[hfs,List.length_map,ZdG];have:=Zib ways i ways.length;omega
       have ec:(i:Int)+1=((i+1:Nat):Int):=by omega
       obtain⟨z,hz⟩:∃z,Zmf (wid ways (i+1) ways.length)=z:=⟨_,rfl⟩
       have HZ:=zh hz
       have NX:=zh (LV.out.next HW2.out)
       have WD:Hid (Calls Tryz.prog 151 #[.pointer (some ⟨wm.heap.size,0,none⟩),.int .i64 ((i:Int)+1),.int .i64 (ways.length:Int)] wr.drew fun e w'=>e=.returned (.int .i64 z)∧w'=wr.drew):=by
        rw[←HZ.out,ec]
        exact TS5.out.width NX.out.1 NX.out.2
       have LP:=zh (fun fv=>LV.out.push (fv:=fv) hl)
       have hsz5:Hid (w2.heap.size≤wr.drew.heap.size):=TS5.out.old.size
       have d6:(wr.alloc (.cells #[.int .i64 z] 3)).cell? ⟨wm.heap.size,0,none⟩=some (.slice (some ⟨w2.heap.size,0,none⟩) k k):=Zac (Zab (Below.refl _ wr) _) (show wr.cell? _=_ from d0)
       have f6:(wr.alloc (.cells #[.int .i64 z] 3)).cell? ⟨w2.heap.size,i*2+1,none⟩=some (.slice fa fs.length fc):=Zac (Zab (Below.refl _ wr) _) (show wr.cell? _=_ from f5)
       have wi:IntKind.i64.wrap ((i:Int)+1)=(i:Int)+1:=Zq2 (by omega)
       have LSL:=zh lsl
       clear hl hks hfs fr ec hz lsl
       go_wp2
       go_region_law (first
        |(refine ZdU wr.drew z w2.heap.size fa fs.length fc fs FR5.out flen hsz5.out (by rfl) _ _ (by rfl) (by rfl) (by rfl) ?_;intro g6 c6 w6 q1 q2 q3;obtain⟨p1,p2,p3,p4⟩:=TS5.out.pushF (t:=z) (v':=.slice (some ⟨g6,0,none⟩) (fs.length+1) c6) HL.out q1 q2 (fun b e=>by cases e;exact q3);dsimp only at p1;rw[LSL.out] at p3;have p4:=zh p4;clear q1 q2 q3)
        |(go_simp;go_wp2_with (go_at_call 151;(with_reducible refine WD.out.mono ?_);rintro e w1 ⟨rfl,hw1⟩;obtain rfl:=hw1.symm))
        |fail)
       all_goals
        go_wp2
        go_roundw
        case rel=>
         have e9:=LP.out (.slice (some ⟨g6,0,none⟩) (fs.length+1) c6)
         have p5:=p4.out
         dsimp only at e9 p5
         rw[HZ.out] at e9
         exact⟨i+1,by omega,by go_num,_,p5,e9⟩
        case measure=>simp[intOf];omega
      ·obtain rfl:i=k:=by omega
       have hge3:¬(i:Int)<(i:Int):=by omega
       have TV:=zh (TS.out.doneB LV.out wb.heap.size E2.out.size)
       have HP:Hid (Zgg ar os rs wb (.returned (.tuple #[.pointer (some ⟨wm.heap.size,0,none⟩),.int .i64 0])) wr):=by
        refine .inr ⟨HOK.out,wm.heap.size,ways,rfl,Nat.le_trans E2.out.size TS.out.pt,(zag TS.out.top).1,?_,Zaa E2.out TS.out.old,?_,HM2.out,HL2.out⟩
        ·intro w9 hb9;rw[HOL.out];exact TV.out w9 hb9
        ·rw[HOL.out];exact HW2.out
       go_wp2
       go_ret2
       exact HP.out
theorem ZbV.froms {w:World}{pt d:Nat}{ways:List (List ByteArray)}(h:ZbV w pt d ways):∃g,w.cell? ⟨pt,0,none⟩=some (.slice (some ⟨g,0,none⟩) d d)∧∀i,i<d→∃b o fc,w.cell? ⟨g,i*2+1,none⟩=some (.slice (some ⟨b,o,none⟩) (wid ways i ways.length+1) fc)∧∀j,j≤wid ways i ways.length→w.cell? ⟨b,o+j,none⟩=some (.int .i64 (wid ways (i+1) (st ways i j):Nat)):=by
 obtain⟨⟨g,h1,h2⟩,_,_⟩:=h
 refine⟨g,h1,fun i hi=>?_⟩
 obtain⟨ka,kc,fa,fc,a1,a2,a3,_,_,a4⟩:=h2 i hi
 obtain⟨x,b,o,_,e,_⟩:=a4.2.at (i:=0) (by omega)
 subst e
 refine⟨b,o,fc,a2,fun j hj=>?_⟩
 obtain⟨x,b',o',hx,e,hc⟩:=a4.2.at (i:=j) (by omega)
 cases e
 rw[List.getElem?_map,ZqX ways i j hj] at hx
 cases hx
 simpa [Zk5,Zmf] using hc
theorem ZbV.keys {w:World}{pt d:Nat}{ways:List (List ByteArray)}(h:ZbV w pt d ways):∃g,w.cell? ⟨pt,0,none⟩=some (.slice (some ⟨g,0,none⟩) d d)∧∀i,i<d→∃ka kc,w.cell? ⟨g,i*2,none⟩=some (.slice ka (wid ways i ways.length) kc)∧Zai w ka (wid ways i ways.length) (Zcc ways i ways.length)∧(ka=none→wid ways i ways.length=0∧kc=0)∧wid ways i ways.length≤kc:=by
 obtain⟨⟨g,h1,h2⟩,_,_⟩:=h
 refine⟨g,h1,fun i hi=>?_⟩
 obtain⟨ka,kc,fa,fc,a1,a2,a3,a4,a5,_⟩:=h2 i hi
 exact⟨ka,kc,a1,a3,a4,a5⟩
theorem Zps (pt d:Nat)(ways:List (List ByteArray))(w:World)(h:ZbV w pt d ways):
  Calls Tryz.prog 135 #[.pointer (some ⟨pt,0,none⟩)] w fun e w'=>e=.returned (.bool false)∧w'=w:=by
 have c2:=h.c2
 clear h
 go_enter Tryz.func135,Tryz.ntmps135
 go_wp2
 go_returns
 exact⟨rfl,rfl⟩
theorem Zld (pt d:Nat)(ways:List (List ByteArray))(w:World)(h:ZbV w pt d ways):
  Calls Tryz.prog 156 #[.pointer (some ⟨pt,0,none⟩)] w fun e w'=>e=.returned (.int .i64 (d:Nat))∧w'=w:=by
 have H:=zh h
 obtain⟨g,h0,_⟩:=h.top
 clear h
 go_enter Tryz.func156,Tryz.ntmps156
 go_wp2_with (go_at_call 135;(with_reducible refine(Zps pt d ways _ H.out).mono ?_);rintro e w1 ⟨rfl,hw1⟩;obtain rfl:=hw1.symm)
 go_returns
 exact⟨rfl,rfl⟩
theorem Zpt (pt d:Nat)(ways:List (List ByteArray))(w:World)(h:ZbV w pt d ways):
  Calls Tryz.prog 157 #[.pointer (some ⟨pt,0,none⟩)] w fun e w'=>e=.returned (.int .i64 (ways.length:Nat))∧w'=w:=by
 have H:=zh h
 have c1:=h.c1
 clear h
 go_enter Tryz.func157,Tryz.ntmps157
 go_wp2_with (go_at_call 135;(with_reducible refine(Zps pt d ways _ H.out).mono ?_);rintro e w1 ⟨rfl,hw1⟩;obtain rfl:=hw1.symm)
 go_returns
 exact⟨rfl,rfl⟩
theorem Zte {P:World→Prop}{w:World}(h:∀W,W=w→P W):P w:=h w rfl
def Zna (s:Nat×Nat):Value:=.agg #[.int .i64 (s.1:Nat),.int .i64 (s.2:Nat)]
def Zj4 (ways:List (List ByteArray))(i j:Nat):Nat×Nat:=(wid ways (i+1) (st ways i j),wid ways (i+1) (st ways i (j+1)))
theorem Ztf (pt d:Nat)(ways:List (List ByteArray))(i j:Nat)(w:World)(h:ZbV w pt d ways)(hi:i<d)(hj:j<wid ways i ways.length)(hn:ways.length≤1000000):
  Calls Tryz.prog 159 #[.pointer (some ⟨pt,0,none⟩),.int .i64 (i:Int),.int .i64 (j:Int)] w fun e w'=>e=.returned (Zna (Zj4 ways i j))∧Ext w w':=by
 obtain⟨g,h0,h1⟩:=h.froms
 obtain⟨b,o,fc,h2,h3⟩:=h1 i hi
 have g1:=h3 j (by omega)
 have g2:=h3 (j+1) (by omega)
 have hwl:=Zib ways i ways.length
 obtain⟨N,hN⟩:∃N,wid ways i ways.length+1=N:=⟨_,rfl⟩
 have hjN:j+1<N:=by omega
 rw[hN] at h2
 unfold Zj4 Zna
 dsimp only
 obtain⟨x,hx⟩:∃x:Nat,wid ways (i+1) (st ways i j)=x:=⟨_,rfl⟩
 obtain⟨y,hy⟩:∃y:Nat,wid ways (i+1) (st ways i (j+1))=y:=⟨_,rfl⟩
 rw[hx] at g1
 rw[hy] at g2
 rw[hx,hy]
 have e (o':Obj):Ext w (w.alloc o'):=Zab (Below.refl _ w) o'
 have k0:=fun o'=>Zac (e o') h0
 have k1:=fun o'=>Zac (e o') h2
 have k2:=fun o'=>Zac (e o') g1
 have k3:=fun o'=>Zac (e o') g2
 have p1:(i:Int)<(d:Int):=by omega
 have p2:(j:Int)<(N:Int):=by omega
 have p3:(j:Int)+1<(N:Int):=by omega
 have p4:(0:Int)≤(j:Int)+1:=by omega
 have p5:((j:Int)+1).toNat=j+1:=by omega
 have p6:IntKind.i64.wrap ((j:Int)+1)=(j:Int)+1:=Zq2 (by omega)
 clear h h1 h3 hx hy hN h0 h2 g1 g2
 go_enter Tryz.func159,Tryz.ntmps159
 go_wp2
 refine Zba (fun W0 hW0=>?_)
 have E0:Hid (Ext w W0):=by show Ext _ _;rw[hW0];exact e _
 have c0:W0.cell? ⟨pt,0,none⟩=some (.slice (some ⟨g,0,none⟩) d d):=by rw[hW0];exact k0 _
 have c1:W0.cell? ⟨g,i*2+1,none⟩=some (.slice (some ⟨b,o,none⟩) N fc):=by rw[hW0];exact k1 _
 have c2:W0.cell? ⟨b,o+j,none⟩=some (.int .i64 (x:Int)):=by rw[hW0];exact k2 _
 have c3:W0.cell? ⟨b,o+(j+1),none⟩=some (.int .i64 (y:Int)):=by rw[hW0];exact k3 _
 have z0:W0.cell? ⟨w.heap.size,0,none⟩=some (.int .i64 0):=by rw[hW0];go_simp
 have z1:W0.cell? ⟨w.heap.size,1,none⟩=some (.int .i64 0):=by rw[hW0];go_simp
 have f0:W0.frozen? ⟨w.heap.size,0,none⟩=false:=by rw[hW0];go_simp
 have f1:W0.frozen? ⟨w.heap.size,1,none⟩=false:=by rw[hW0];go_simp
 clear hW0 k0 k1 k2 k3 e
 go_still_tail 24,(by kernel_rfl)
 go_wp2
 refine Zte (fun W hW=>?_)
 have S0:W.cell? ⟨w.heap.size,0,none⟩=some (.int .i64 (x:Int)):=by rw[hW];go_simp
 have S1:W.cell? ⟨w.heap.size,1,none⟩=some (.int .i64 (y:Int)):=by rw[hW];go_simp
 have hE:Ext w W:=by rw[hW];exact Zal (Zal (Zaf E0.out) (Nat.le_refl _) _) (Nat.le_refl _) _
 refine bodyPost_ret (by simp[results,Tryz.results159,go_sem,S0,S1];try rfl) rfl ?_
 exact⟨rfl,hE⟩
