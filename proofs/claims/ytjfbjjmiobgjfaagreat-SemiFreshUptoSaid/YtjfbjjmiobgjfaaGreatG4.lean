/- The walk of a set's Add. -/
import Derived.Test.YtjfbjjmiobgjfaaGreatG3
import Derived.RangeFuncNested
import Derived.RangeFuncBound
import Derived.Shelf.RegionOpen
import Derived.OwnWalkIn
import Derived.LoopNIn
import Derived.LoopIn
set_option maxRecDepth 100000
set_option maxHeartbeats 8000000
namespace Go.Proofs.YtjfbjjmiobgjfaaGreat
open ChangeShapes WideShapes ChangeAt RowKit
theorem ZeS.weak {base:Nat}{vs:List Value}{u:Value}{n i:Nat}{w:World}{e:Ending}{w':World}(h:ZeS base vs u n i none w e w')(row:Option Nat):ZeS base vs u n i row w e w':=by
 obtain⟨g,c',h1,h2,h3,h4⟩:=h
 exact⟨g,c',h1,h2,⟨h3.os,h3.tape,h3.output,h3.size,fun k hk _=>h3.block k hk (by simp)⟩,h4.elim (fun e=>by cases e) .inr⟩
theorem ZlU (vs:List Value)(u:Value)(a:Option Addr)(n c i gv:Nat)(base:Nat)(w:World)(hown:w.ownsRow base 54 1 (.slice a n c) n vs)(h1v:∀v∈vs,v.oneCell'=true)(hin:i≤n)(hgv:w.heap[gv]? =some (.cells #[u] 54 (0,0)))(hne:∀b,(Value.slice a n c).ownBlock=some b→gv≠b)(hu:u.oneCell'=true)(hn:n≤1000000)(hb:base≤w.heap.size):
  Calls Tryz.prog 114 #[.slice a n c,.int .i64 (i:Int),.slice (some ⟨gv,0,none⟩) 1 1] w (ZeS base vs u n i (Value.slice a n c).ownBlock w):=by
 have hvv:w.cell? ⟨gv,0,none⟩=some u:=by simp[World.cell?,hgv]
 by_cases he:i=n
 ·subst he
  exact Zjz vs u a i c gv base w hown hvv hu hn hb
 ·obtain⟨g,p,e,_⟩:=Za0 hown (by omega)
  cases e
  by_cases hr:n+1≤c
  ·exact ZhD vs u g n c i gv base w hown h1v (by omega) hr hgv (hne g rfl) hu hn
  ·exact(ZiG vs u g n c i gv base w hown h1v (by omega) (by omega) hvv hu hn hb).mono fun e w' h=>h.weak _
theorem Zqv {rs:List (List ByteArray)}{vs:List Value}{P:List ByteArray→Value→Prop}(hl:vs.length=rs.length)(h:∀(k:Nat) (r:List ByteArray) (v:Value),rs[k]? =some r→vs[k]? =some v→P r v){t:List ByteArray}{u:Value}(hu:P t u){i:Nat}(hi:i≤rs.length):
  ∀(k:Nat) (r:List ByteArray) (v:Value),(rs.take i++t::rs.drop i)[k]? =some r→(vs.take i++u::vs.drop i)[k]? =some v→P r v:=by
 intro k r v hr hv
 have l1:(rs.take i).length=i:=by rw[List.length_take];omega
 have l2:(vs.take i).length=i:=by rw[List.length_take];omega
 rcases Nat.lt_trichotomy k i with hk|rfl|hk
 ·rw[List.getElem?_append_left (by omega),List.getElem?_take,if_pos hk] at hr hv
  exact h k r v hr hv
 ·rw[List.getElem?_append_right (by omega),l1,Nat.sub_self] at hr
  rw[List.getElem?_append_right (by omega),l2,Nat.sub_self] at hv
  cases hr
  cases hv
  exact hu
 ·rw[List.getElem?_append_right (by omega),l1,show k-i=(k-i-1)+1 by omega,List.getElem?_cons_succ,List.getElem?_drop] at hr
  rw[List.getElem?_append_right (by omega),l2,show k-i=(k-i-1)+1 by omega,List.getElem?_cons_succ,List.getElem?_drop] at hv
  exact h _ r v hr hv
theorem Zay.ext {w w':World}{lo pb ar:Nat}{rs:List (List ByteArray)}(h:Zay w lo pb ar rs)(e:Ext w w'):Zay w' lo pb ar rs:=by
 obtain⟨a,c,vs,h1,h2,h3⟩:=h.row
 exact⟨h.lt,Zac e h.c0,Zac e h.c2,(e.frozen (p:=⟨pb,1,none⟩) (World.block_lt_of_cell? w ⟨pb,1,none⟩ h1)).trans h.free,a,c,vs,Zac e h1,Zar h2 e,fun i r v hr hv=>Zar (h3 i r v hr hv) e⟩
def ZaJ (w:World)(pb:Nat):Option Nat:=match w.cell? ⟨pb,1,none⟩ with
 |some (.slice (some a) _ _)=>some a.block
 |_=>none
structure Zfu (pb:Nat)(w w':World):Prop where
 but:Zah (fun b=>b=pb∨ZaJ w pb=some b) w w'
 itm:ZaJ w' pb=ZaJ w pb∨∃g,ZaJ w' pb=some g∧w.heap.size≤g
 typ:∀cs t x,w.heap[pb]? =some (.cells cs t x)→∃cs',w'.heap[pb]? =some (.cells cs' t x)
theorem Zfu.refl (pb:Nat)(w:World):Zfu pb w w:=⟨Zah.refl _ _,.inl rfl,fun cs _ _ h=>⟨cs,h⟩⟩
def ZiO (lo pb ar:Nat)(rs:List (List ByteArray))(t:List ByteArray)(w:World)(e:Ending)(w':World):Prop:=e=.returned (.bool (!ZaX rs t))∧Zay w' lo pb ar (ZaO rs t)∧Zah (fun b=>b=pb∨lo≤b) w w'∧Zfu pb w w'
theorem Zbk {w:World}{pb:Nat}{cs:Array Value}{t:TypeId}{x:Nat×Nat}(h:w.heap[pb]? =some (.cells cs t x))(k:Nat)(v:Value):∃cs',(w.setCell ⟨pb,k,none⟩ v).heap[pb]? =some (.cells cs' t x):=by
 refine⟨cs.setIfInBounds k v,?_⟩
 simp[World.setCell,Array.getElem?_modify,h]
theorem Zay.put {w w':World}{lo pb ar:Nat}{rs:List (List ByteArray)}{t:List ByteArray}{a:Option Addr}{c:Nat}{vs:List Value}{u:Value}{o:Obj}{g c':Nat}(h:Zay w lo pb ar rs)(h1:w.cell? ⟨pb,1,none⟩=some (.slice a rs.length c))(h2:w.ownsRow lo 54 1 (.slice a rs.length c) rs.length vs)(h3:∀(i:Nat) (r:List ByteArray) (v:Value),rs[i]? =some r→vs[i]? =some v→w.ownsRow lo 9 1 v r.length (r.map Value.string))(hu:w.ownsRow lo 9 1 u t.length (t.map Value.string))(hf:¬ZaX rs t=true)(hlow:ZdK rs t≤rs.length)
  (r1:w'.ownsRow lo 54 1 (.slice (some ⟨g,0,none⟩) (rs.length+1) c') (rs.length+1) (vs.take (ZdK rs t)++u::vs.drop (ZdK rs t))) (r2:(w.alloc o).grownBy w' (Value.slice a rs.length c).ownBlock) (r3:(Value.slice a rs.length c).ownBlock=some g∨(w.alloc o).heap.size≤g):
  w'.cell? ⟨pb,1,none⟩=some (.slice a rs.length c)∧w'.frozen? ⟨pb,1,none⟩=false∧Zay (w'.setCell ⟨pb,1,none⟩ (.slice (some ⟨g,0,none⟩) (rs.length+1) c')) lo pb ar (ZaO rs t)∧Zah (fun b=>b=pb∨lo≤b) w (w'.setCell ⟨pb,1,none⟩ (.slice (some ⟨g,0,none⟩) (rs.length+1) c'))∧Zfu pb w (w'.setCell ⟨pb,1,none⟩ (.slice (some ⟨g,0,none⟩) (rs.length+1) c')):=by
 have hpw:pb<w.heap.size:=World.block_lt_of_cell? w ⟨pb,1,none⟩ h1
 have hlen:vs.length=rs.length:=by have:=h2.1;omega
 have hblk:w'.heap[pb]? =w.heap[pb]?:=(r2.block pb (by simp;omega) (fun e=>by
  have:=(h2.lt pb e.symm).1
  have:=h.lt
  omega)).trans ((Zab (Below.refl _ w:Ext w w) o).block pb hpw)
 have cellp:∀k v,w.cell? ⟨pb,k,none⟩=some v→w'.cell? ⟨pb,k,none⟩=some v:=fun k v hk=>by
  rw[←hk]
  exact World.cell?_of_block hblk
 have hfz:w'.frozen? ⟨pb,1,none⟩=false:=by
  rw[←h.free]
  unfold World.frozen?
  simp only
  rw[hblk]
 have str:∀{v:Value} {n:Nat} {xs:List Value},w.ownsRow lo 9 1 v n xs→(w'.setCell ⟨pb,1,none⟩ (.slice (some ⟨g,0,none⟩) (rs.length+1) c')).ownsRow lo 9 1 v n xs:=fun hh=>ownsRow_setCell_below ((hh.alloc o).kept r2 (ZaK (hh.alloc o) (h2.alloc o) (by decide))) (a:=⟨pb,1,none⟩) h.lt _
 have hput:ZaO rs t=rs.take (ZdK rs t)++t::rs.drop (ZdK rs t):=by unfold ZaO;rw[if_neg hf]
 have hpl:(ZaO rs t).length=rs.length+1:=by rw[hput];simp;omega
 refine⟨cellp 1 _ h1,hfz,⟨h.lt,?_,?_,?_,some ⟨g,0,none⟩,c',vs.take (ZdK rs t)++u::vs.drop (ZdK rs t),?_,?_,?_⟩,?_,?_⟩
 ·rw[World.cell?_setCell_other _ _ _ _ (by simp)]
  exact cellp 0 _ h.c0
 ·rw[World.cell?_setCell_other _ _ _ _ (by simp)]
  exact cellp 2 _ h.c2
 ·rw[World.frozen?_setCell]
  exact hfz
 ·rw[hpl]
  exact World.cell?_setCell_same _ _ _ (cellp 1 _ h1)
 ·rw[hpl]
  exact ownsRow_setCell_below r1 (a:=⟨pb,1,none⟩) h.lt _
 ·rw[hput]
  exact Zqv hlen (fun i r v hr hv=>str (h3 i r v hr hv)) (str hu) hlow
 ·exact(((Zah.refl _ w).alloc o).grown r2 (fun b e=>.inl (.inr (h2.lt b e).1))).set (.inl (.inl rfl)) _ _
 ·have hib:ZaJ w pb=(Value.slice a rs.length c).ownBlock:=by
   unfold ZaJ
   rw[h1]
   cases a <;> rfl
  refine⟨(((Zah.refl _ w).alloc o).grown r2 (fun b e=>.inl (.inr (hib.trans e)))).set (.inl (.inl rfl)) _ _,?_,fun cs ty x hx=>?_⟩
  ·have hnew:ZaJ (w'.setCell ⟨pb,1,none⟩ (.slice (some ⟨g,0,none⟩) (rs.length+1) c')) pb=some g:=by
    unfold ZaJ
    rw[World.cell?_setCell_same _ _ _ (cellp 1 _ h1)]
   rw[hnew,hib]
   rcases r3 with r3|r3
   ·exact .inl r3.symm
   ·simp at r3
    exact .inr ⟨g,rfl,by omega⟩
  ·exact Zbk (hblk.trans hx) _ _
theorem Zul (lo pb ar:Nat)(rs:List (List ByteArray))(t:List ByteArray)(a:Option Addr)(c:Nat)(w:World)(h:Zay w lo pb ar rs)(hr:Zbg rs)(hu:w.ownsRow lo 9 1 (.slice a t.length c) t.length (t.map Value.string))(hn:rs.length≤65536)(hlo:lo≤w.heap.size):
  Calls Tryz.prog 71 #[.pointer (some ⟨pb,0,none⟩),.slice a t.length c] w (ZiO lo pb ar rs t w):=by
 obtain⟨ai,ci,h1,hit⟩:=h.items (by unfold maxLen;omega)
 obtain⟨a0,c0,vs,h1',h2,h3⟩:=h.row
 rw[h1] at h1'
 cases h1'
 have FIND:=zh (Znk rs t pb ai rs.length ci a t.length c w h.c0 h1 hit (ZaL hu (Za4 hu).1) (hr.cut t) (by omega))
 have hlow:=(ZdP hr t).1
 have h1v:∀v∈vs,v.oneCell'=true:=fun v hv=>by
  obtain⟨k,hk⟩:=List.mem_iff_getElem?.1 hv
  have hlen:vs.length=rs.length:=by have:=h2.1;omega
  have hkl:=(zgs hk).1
  obtain⟨r,hrr⟩:∃r,rs[k]? =some r:=⟨_,zge (by omega)⟩
  obtain⟨_,_,e,_⟩:=Zag (h3 k r v hrr hk)
  rw[e]
  rfl
 have H:=zh h
 have H2:=zh h2
 have H3:=zh h3
 have HU:=zh hu
 have HV:=zh h1v
 have HLOW:=zh hlow
 have HLO:=zh hlo
 clear hit hr hu h1v hlo h2 h3
 obtain⟨f,hf⟩:∃f,ZaX rs t=f:=⟨_,rfl⟩
 have HF:=zh hf
 rw[hf] at FIND
 obtain⟨i,hi⟩:∃i,ZdK rs t=i:=⟨_,rfl⟩
 have HI:=zh hi
 rw[hi] at FIND hlow
 clear hf hi
 have hpw:pb<w.heap.size:=World.block_lt_of_cell? w ⟨pb,1,none⟩ h1
 cases f with
 |true=>
  clear h h1
  go_enter Tryz.func71,Tryz.ntmps71
  go_wp2_with (go_at_call 113;(with_reducible refine FIND.out.mono ?_);rintro e w1 ⟨rfl,hw1⟩;obtain rfl:=hw1.symm)
  go_returns
  exact⟨by rw[HF.out];rfl,by unfold ZaO;rw[if_pos HF.out];exact H.out,Zah.refl _ _,Zfu.refl _ _⟩
 |false=>
  have hgv:(w.alloc (.cells #[.slice a t.length c] 54)).heap[w.heap.size]? =some (.cells #[.slice a t.length c] 54 (0,0)):=heap_alloc_new w _
  have INS:=zh (ZlU vs (.slice a t.length c) ai rs.length ci i w.heap.size lo (w.alloc (.cells #[.slice a t.length c] 54)) (H2.out.alloc _) HV.out hlow hgv (fun b e=>by have:=(H2.out.lt b e).2;omega) rfl (by omega) (Za3 HLO.out))
  have fr:=h.free
  clear h hgv
  go_enter Tryz.func71,Tryz.ntmps71
  go_wp2_with (first
   |(go_at_call 113;(with_reducible refine FIND.out.mono ?_);rintro e w1 ⟨rfl,hw1⟩;obtain rfl:=hw1.symm)
   |(go_at_call 114;(with_reducible refine INS.out.mono ?_);rintro e w1 ⟨g7,p7,rfl,r1,r2,r3⟩;rw[←HI.out] at r1;obtain⟨q1,q2,q3,q4,q5⟩:=H.out.put h1 H2.out H3.out HU.out (by rw[HF.out];simp) HLOW.out r1 r2 r3))
  go_returns
  exact⟨by rw[HF.out];rfl,q3,q4,q5⟩
theorem Zh3 (rs:List (List ByteArray))(t:List ByteArray):(ZaO rs t).length≤rs.length+1:=by
 unfold ZaO
 split
 ·omega
 ·simp
  omega
open ChangeShapes WideShapes ChangeAt RowKit Go.Shelf
attribute [local go_sem] Oper.semAt_some
theorem ZsD (w:World):(binOp .eql 50 (.slice none 0 0) (.slice none 0 0)).run Tryz.prog w=.ok (.bool true) w:=by kernel_rfl
theorem Zqw (ad:Addr)(n cap:Nat)(w:World):(binOp .eql 50 (.slice (some ad) n cap) (.slice none 0 0)).run Tryz.prog w=.ok (.bool false) w:=by kernel_rfl
theorem Zqx (vs:List Value)(a:Option Addr)(n cap:Nat)(base:Nat)(w:World)(h:w.ownsRow base 54 1 (.slice a n cap) n vs)(h1:∀v∈vs,v.oneCell'=true)(hn:n≤1000000):
  Calls Tryz.prog 126 #[.slice a n cap] w fun e w'=>∃a' c',e=.returned (.slice a' n c')∧w'.ownsRow w.heap.size 54 1 (.slice a' n c') n vs∧Ext w w':=by
 cases a with
 |none=>
  obtain⟨rfl,rfl⟩:=(ZaF h).2 rfl
  have hx:vs=[]:=List.eq_nil_of_length_eq_zero (by have:=h.1;omega)
  subst hx
  clear h h1
  have eqn:=ZsD
  go_enter Tryz.func126,Tryz.ntmps126
  go_wp2
  go_returns
  exact⟨none,0,rfl,World.ownsRow_nil _ _ _ _,Below.refl _ _⟩
 |some ad=>
  obtain⟨i0,hi,hz0,hz1,hz2⟩:=info_parts Zcu
  have IL:=zh h.1
  have IC:=zh (ZgO (h.alloc (.cells #[] 54)))
  have IO:=zh h1
  have H3:Hid (0+n≤maxLen):=by show _≤_;unfold maxLen;omega
  have H4:Hid ((0+n)*24≤140737488355328):=by show _≤_;omega
  have hown0:(w.alloc (.cells #[] 54)).ownsRow w.heap.size 54 1 (.slice (some ⟨w.heap.size,0,none⟩) 0 0) 0 []:=World.ownsRow_lit w #[] 0 (Nat.le_refl _) (by unfold maxLen;omega) rfl
  have HO:=zh hown0
  have eqn:=Zqw ad n cap
  clear h h1 hown0
  go_enter Tryz.func126,Tryz.ntmps126
  go_wp2_with (at_builtin;go_loud (refine Zas rfl _ _ 50 rfl w.heap.size 54 i0 (.slice none 0 0) 1 24 Tryz.underlying50 hi hz0 hz1 hz2 rfl (by decide) _ _ _ rfl HO.out (some ad) n cap vs rfl (by intro h;cases h) IL.out IC.out IO.out H3.out H4.out (Za3 (Nat.le_refl _)) ?_);intro v1 w1 own1 g1)
  obtain⟨a1,c1,rfl,_⟩:=Zag own1
  have hb:=Zaz (Zab (Below.refl _ w:Ext w w) _) g1 (by intro g e;cases e;exact Nat.le_refl _)
  go_returns
  rw[Nat.zero_add,List.nil_append] at own1
  exact⟨a1,c1,by rw[Nat.zero_add];rfl,own1,hb⟩
def Zax (lo:Nat)(w:World)(vs:List Value)(rs:List (List ByteArray)):Prop:=vs.length=rs.length∧∀(i:Nat) (r:List ByteArray) (v:Value),rs[i]? =some r→vs[i]? =some v→w.ownsRow lo 9 1 v r.length (r.map Value.string)
theorem Zax.one {lo:Nat}{w:World}{vs:List Value}{rs:List (List ByteArray)}(h:Zax lo w vs rs):∀v∈vs,v.oneCell'=true:=fun v hv=>by
 obtain⟨k,hk⟩:=List.mem_iff_getElem?.1 hv
 have hkl:=(zgs hk).1
 obtain⟨r,hrr⟩:∃r,rs[k]? =some r:=⟨_,zge (by have:=h.1;omega)⟩
 obtain⟨_,_,e,_⟩:=Zag (h.2 k r v hrr hk)
 rw[e]
 rfl
theorem Zax.ext {lo:Nat}{w w':World}{vs:List Value}{rs:List (List ByteArray)}(h:Zax lo w vs rs)(e:Ext w w'):Zax lo w' vs rs:=⟨h.1,fun i r v hr hv=>Zar (h.2 i r v hr hv) e⟩
theorem Zay.rows {w:World}{lo pb ar:Nat}{rs:List (List ByteArray)}(h:Zay w lo pb ar rs):∃a c vs,w.cell? ⟨pb,1,none⟩=some (.slice a rs.length c)∧w.ownsRow lo 54 1 (.slice a rs.length c) rs.length vs∧Zax lo w vs rs:=by
 obtain⟨a,c,vs,h1,h2,h3⟩:=h.row
 exact⟨a,c,vs,h1,h2,by have:=h2.1;omega,h3⟩
def ZsE (lo:Nat)(rs:List (List ByteArray))(w:World)(e:Ending)(w':World):Prop:=∃a c vs,e=.returned (.slice a rs.length c)∧w'.ownsRow w.heap.size 54 1 (.slice a rs.length c) rs.length vs∧Zax lo w vs rs∧Ext w w'
theorem Zqy (lo pb ar:Nat)(rs:List (List ByteArray))(w:World)(h:Zay w lo pb ar rs)(hn:rs.length≤1000000):
  Calls Tryz.prog 92 #[.pointer (some ⟨pb,0,none⟩)] w (ZsE lo rs w):=by
 obtain⟨a,c,vs,h1,h2,h3⟩:=h.rows
 have CL:=zh (Zqx vs a rs.length c lo w h2 h3.one hn)
 have H3:=zh h3
 clear h h2 h3
 go_enter Tryz.func92,Tryz.ntmps92
 go_wp2_with (go_at_call 126;(with_reducible refine CL.out.mono ?_);rintro e w1 ⟨a7,c7,rfl,r7,e7⟩)
 go_returns
 exact⟨a7,c7,vs,rfl,r7,H3.out,e7⟩
theorem ZgH (a:Option Addr)(n c:Nat)(w:World):
  Calls Tryz.prog 91 #[.slice a n c] w fun e w'=>e=.returned (.func (.func 125) #[] #[.pointer (some ⟨w.heap.size,0,none⟩)])∧w'=w.alloc (.cells #[.slice a n c] 50):=by
 go_enter Tryz.func91,Tryz.ntmps91
 go_wp2
 go_returns
 exact⟨rfl,rfl⟩
def ZiP (lo:Nat)(rs:List (List ByteArray))(w:World)(e:Ending)(w':World):Prop:=∃bs a c vs,e=.returned (.func (.func 125) #[] #[.pointer (some ⟨bs,0,none⟩)])∧w.heap.size≤bs∧bs<w'.heap.size∧w'.cell? ⟨bs,0,none⟩=some (.slice a rs.length c)∧w'.ownsRow w.heap.size 54 1 (.slice a rs.length c) rs.length vs∧Zax lo w vs rs∧Ext w w'
theorem ZoO (lo pb ar:Nat)(rs:List (List ByteArray))(w:World)(h:Zay w lo pb ar rs)(hn:rs.length≤1000000):
  Calls Tryz.prog 42 #[.pointer (some ⟨pb,0,none⟩)] w (ZiP lo rs w):=by
 have IT:=zh (Zqy lo pb ar rs w h hn)
 clear h hn
 go_enter Tryz.func42,Tryz.ntmps42
 go_wp2_with (first
  |(go_at_call 92;(with_reducible refine IT.out.mono ?_);rintro e w1 ⟨a7,c7,vs,rfl,r7,h7,e7⟩)
  |(go_at_call 91;(with_reducible refine(ZgH _ _ _ _).mono ?_);rintro e w2 ⟨rfl,hw2⟩;obtain rfl:=hw2.symm))
 go_returns
 exact⟨w1.heap.size,a7,c7,vs,rfl,e7.size,by simp,(Boxed.new w1 _ _).cell,Zar r7 (Zab zbr _),h7,Zab e7 _⟩
def Zef (N k:Nat):List {j:Nat // j<N}:=(List.range k).filterMap fun j=>if h:j<N then some ⟨j,h⟩ else none
theorem ZdR {N k:Nat}(h:k<N):Zef N (k+1)=Zef N k++[⟨k,h⟩]:=by
 unfold Zef
 rw[List.range_succ,List.filterMap_append]
 simp[h]
theorem ZiQ {N k:Nat}(h:k≤N):(Zef N k).length=k:=by
 induction k with
 |zero=>rfl
 |succ k ih=>rw[ZdR (by omega),List.length_append,ih (by omega)];rfl
theorem ZmV (F:Fence)(n:Nat)(h7:F.fn 125)(hro:F.round=none)(hn:1≤n)(l bs g N cap:Nat)(vs:List Value)(hl:vs.length=N)(h1v:∀v∈vs,∃a m c,v=.slice a m c)(hN:N≤1000000)(S:Nat→Prop)(hS:¬S g)(J Jx:List {j:Nat // j<N}→World→Prop)
  (hY:∀pre x W,J pre W→pre.length<N→YieldAt F (n-1) Tryz.prog l #[vs[x.1]?.getD undef] W fun e W'=>
   (e=.returned (.bool true)∧J (pre++[x]) W'∧Zah S W W')∨(e=.returned (.bool false)∧Jx (pre++[x]) W'))
  (W:World) (hBs:W.cell? ⟨bs,0,none⟩=some (.slice (some ⟨g,0,none⟩) N cap)) (hc:∀j v,vs[j]? =some v→W.cell? ⟨g,j,none⟩=some v) (h0:J [] W):
  CallsIn F n Tryz.prog 125 #[.func (.yield l) #[] #[],.pointer (some ⟨bs,0,none⟩)] W fun e W'=>(∃v,e=.returned v)∧
   ((∃ys,ys=Zef N N∧J ys W')∨(∃pre,(∃k,k≤N∧pre=Zef N k)∧Jx pre W')):=by
 refine callsIn_of_wp Tryz.func125 rfl h7 ?_ hro
 simp only[Tryz.ntmps125,List.size_toArray,List.length_cons,List.length_nil,Nat.reduceAdd,Nat.reduceSub,Array.replicate_succ,Array.replicate_zero,List.push_toArray,List.append_toArray,List.nil_append,List.cons_append]
 gi_wp2
 gi_loopw [7] (fun i wr=>∃k:Nat,k≤N∧i=.int .i64 k∧J (Zef N k) wr∧Zah S W wr)
  (fun i _=>N-(intOf i).toNat)
 case atStart=>exact⟨0,Nat.zero_le _,rfl,h0,Zah.refl _ _⟩
 case round=>
  obtain⟨k,hk,rfl,hJs,hnx⟩:=hrel
  by_cases hlt:k<N
  ·obtain⟨v,hv⟩:∃v,vs[k]? =some v:=⟨_,zge (by omega)⟩
   obtain⟨a7,m7,c7,rfl⟩:=h1v v (zmg hv)
   obtain⟨fn,tmps,assign,body,hy,hR⟩:=hY _ ⟨k,hlt⟩ wr hJs (by rw[ZiQ hk];exact hlt)
   dsimp only at hy
   rw[hv] at hy
   simp only[Option.getD_some] at hy
   have hcx:=hnx.cell hS (hc k _ hv)
   gi_wp2
   refine hR.mono ?_
   rintro e W3 (⟨rfl,hJ3,hk3⟩|⟨rfl,hJx3⟩)
   ·gi_wp2
    go_roundw
    case rel=>exact⟨k+1,by omega,by simp,by rw[ZdR hlt];exact hJ3,hnx.trans hk3⟩
    case measure=>simp[intOf];omega
   ·gi_wp2
    refine bodyPost_ret (results_none rfl _ _ _) rfl ?_
    exact⟨⟨_,rfl⟩,.inr ⟨_,⟨k+1,by omega,(ZdR hlt).symm⟩,hJx3⟩⟩
  ·obtain rfl:k=N:=by omega
   gi_wp2
   go_end0
   exact⟨⟨_,rfl⟩,.inl ⟨_,rfl,hJs⟩⟩
theorem ZhH (F:Fence)(n:Nat)(h7:F.fn 125)(hro:F.round=none)(l bs:Nat){α:Type}(J:List α→World→Prop)(W:World)(hBs:W.cell? ⟨bs,0,none⟩=some (.slice none 0 0))(h0:J [] W):
  CallsIn F n Tryz.prog 125 #[.func (.yield l) #[] #[],.pointer (some ⟨bs,0,none⟩)] W fun e W'=>(∃v,e=.returned v)∧J [] W':=by
 refine callsIn_of_wp Tryz.func125 rfl h7 ?_ hro
 simp only[Tryz.ntmps125,List.size_toArray,List.length_cons,List.length_nil,Nat.reduceAdd,Nat.reduceSub,Array.replicate_succ,Array.replicate_zero,List.push_toArray,List.append_toArray,List.nil_append,List.cons_append]
 gi_wp2
 gi_loopw [7] (fun i wr=>i=.int .i64 0∧J [] wr) (fun _ _=>0)
 case atStart=>exact⟨rfl,h0⟩
 case round=>
  obtain⟨rfl,hJs⟩:=hrel
  gi_wp2
  go_end0
  exact⟨⟨_,rfl⟩,hJs⟩
theorem ZcK (F:Fence)(n:Nat)(h7:F.fn 125)(hro:F.round=none)(hn:1≤n)(bs base N cap:Nat)(a:Option Addr)(vs:List Value)(w:World)(hown:w.ownsRow base 54 1 (.slice a N cap) N vs)(h1v:∀v∈vs,∃a m c,v=.slice a m c)(hN:N≤1000000)(S:Nat→Prop)(hS:∀b,(Value.slice a N cap).ownBlock=some b→¬S b)(hbs:bs<w.heap.size)(hc:w.cell? ⟨bs,0,none⟩=some (.slice a N cap)):
  SeqStopsK F n Tryz.prog 125 #[.pointer (some ⟨bs,0,none⟩)] (fun x:{j:Nat // j<N}=>#[vs[x.1]?.getD undef]) (Zah S) (fun ys=>ys=Zef N N) (fun pre=>∃k,k≤N∧pre=Zef N k) N w:=fun l J Jx W hW _ _ hY h0=>by
 have hc':=(hW.cell (p:=⟨bs,0,none⟩) hbs).trans hc
 have hl:vs.length=N:=by have:=hown.1;omega
 rcases hown.2 with⟨h1,h2⟩|⟨g,c',cur,h1,_⟩
 ·cases h1
  exact(ZhH F n h7 hro l bs J W hc' h0).mono fun e W' ⟨he,hj⟩=>⟨he,.inl ⟨_,rfl,hj⟩⟩
 ·cases h1
  refine ZmV F n h7 hro hn l bs g N cap vs hl h1v hN S (hS g rfl) J Jx hY W hc' (fun j v hj=>?_) h0
  have:=hown.cells (g:=g) rfl j v hj
  rw[Addr.add_lit,Nat.zero_add] at this
  exact(hW.cell (p:=⟨g,j,none⟩) (World.block_lt_of_cell? w ⟨g,j,none⟩ this)).trans this
attribute [local go_sem] Oper.semAt_some
theorem ZdC {W W':World}{row:Option Nat}{base n size:Nat}{e:TypeId}{v:Value}{xs:List Value}(h:W.ownsRow base e size v n xs)(hg:W.grownBy W' row)(hr:∀r,row=some r→∃o:Obj,W.heap[r]? =some o∧o.isCells=false):W'.ownsRow base e size v n xs:=by
 refine h.kept hg ?_
 rcases h.2 with⟨rfl,_⟩|⟨g,cap,cur,rfl,_,hgb,_⟩
 ·exact .inl rfl
 ·refine .inr fun e'=>?_
  obtain⟨o,ho,hc⟩:=hr g (by simpa [Value.ownBlock] using e'.symm)
  rw[hgb] at ho;cases ho;cases hc
theorem Zax.keptN {W W':World}{row:Option Nat}{lo:Nat}{vs:List Value}{rs:List (List ByteArray)}(h:Zax lo W vs rs)(hg:W.grownBy W' row)(hr:∀r,row=some r→∃o:Obj,W.heap[r]? =some o∧o.isCells=false):Zax lo W' vs rs:=
 ⟨h.1,fun i r v h1 h2=>ZdC (h.2 i r v h1 h2) hg hr⟩
theorem ZkM {W W':World}{row:Option Nat}{B:Nat}{t:TypeId}{v:Value}(h:Boxed W B t v)(hg:W.grownBy W' row)(hr:∀r,row=some r→∃o:Obj,W.heap[r]? =some o∧o.isCells=false):Boxed W' B t v:=
 h.kept hg fun e=>by
  obtain⟨o,ho,hc⟩:=hr B e.symm
  rw[show W.heap[B]? =_ from h] at ho;cases ho;cases hc
def Zc5 (lo B:Nat)(rs:List (List ByteArray))(W:World):Prop:=∃us a c,Boxed W B 50 (.slice a rs.length c)∧W.ownsRow lo 54 1 (.slice a rs.length c) rs.length us∧Zax lo W us rs
theorem Zc5.keptN {W W':World}{row:Option Nat}{lo B:Nat}{rs:List (List ByteArray)}(h:Zc5 lo B rs W)(hg:W.grownBy W' row)(hr:∀r,row=some r→∃o:Obj,W.heap[r]? =some o∧o.isCells=false):Zc5 lo B rs W':=by
 obtain⟨us,a,c,h1,h2,h3⟩:=h
 exact⟨us,a,c,ZkM h1 hg hr,ZdC h2 hg hr,h3.keptN hg hr⟩
theorem Zah.putObj {S:Nat→Prop}(W:World){l:Nat}(o:Obj)(h:S l):Zah S W (W.putObj l o):=(Zah.refl S W).grown (grownBy_putObj' W l o) (fun b e=>by cases e;exact .inl h)
def ZaM (rs:List (List ByteArray)){N:Nat}(pre:List {j:Nat // j<N}):List (List ByteArray):=pre.map fun x=>rs[x.1]?.getD []
theorem ZdD (rs:List (List ByteArray)){k:Nat}(h:k≤rs.length):ZaM rs (Zef rs.length k)=rs.take k:=by
 induction k with
 |zero=>rfl
 |succ k ih=>
  have hk:rs[k]? =some rs[k]:=zge (by omega)
  rw[ZdR (by omega),ZaA hk,←ih (by omega)]
  simp[ZaM,hk]
theorem Zcl (rs:List (List ByteArray)){N:Nat}(pre:List {j:Nat // j<N})(x:{j:Nat // j<N}){r:List ByteArray}(h:rs[x.1]? =some r):ZaM rs (pre++[x])=ZaM rs pre++[r]:=by simp[ZaM,h]
theorem Zfv {F:Fence}{n:Nat}{P:Program}{ops:Array Oper}{o:Oper}{a:Act}{w:World}{K:Act→World→Prop}{Q:Exit→Act→World→Prop}{E:Prop}
  (hg:o.guard=none) (s x:Operand) (t:TypeId) (hop:o.op=Op.call {callee:=Callee.builtin Builtin.append,args:=#[s,x],argTypes:=#[t,t]})
  (base:Nat) (e:TypeId) (i:TypeInfo) (z:Value) (size bytes:Nat) (h1:P.underlying t=some (.slice e)) (h2:P.info? e=some i) (h3:i.zero=some z) (h4:i.size=size) (h5:i.bytes=bytes) (h6:z.cells.size=size) (h7:0<size)
  (v:Value) (k:Nat) (xs:List Value) (hs:a.eval s=v) (hown:w.ownsRow base e size v k xs) (ad:Addr) (m c:Nat) (news:List Value) (hx:a.eval x=.slice (some ad) m c) (hn:news.length=m*size)
  (hc:∀j u,news[j]? =some u→w.cell? (ad.add j)=some u) (h1c:∀u∈news,u.oneCell'=true) (b1:k+m≤maxLen) (b2:(k+m)*bytes≤140737488355328) (b3:base≤w.heap.size)
  (hK:∀v' w',w'.ownsRow base e size v' (k+m) (xs++news)→w.grownBy w' v.ownBlock→K (a.put o.dst v') w'):
  if Region.wanted o (yielded ops a.tmps)=true then Oper.wpIn F n P o a w K Q else E:=by
 have hw:Region.wanted o (yielded ops a.tmps)=true:=by simp[Region.wanted,hg]
 rw[if_pos hw]
 obtain⟨v',w',hrun,r1,r2,r3⟩:=run_append_own (P:=P) w base t o.type e i z size bytes h1 h2 h3 h4 h5 h6 h7 v k xs hown ad m c news hn hc h1c b1 b2 b3
 unfold Oper.wpIn
 refine⟨?_,?_⟩
 ·simp[Oper.about,hop,resolve,Target.leads,Sem.run_pure]
 ·rw[Oper.semAt_plain F _ _ (by rw[hop];intro c hc';cases hc')]
  simp[execOp,hop,resolve,invoke,builtin,hs,hx,hrun,Result.andThen]
  exact hK v' w' r1 r2
theorem KeepsOthers.ext {W w:World}(e:Ext W w):KeepsOthers W w:=⟨e.size,fun k _ hk _=>(e.block k (zag hk).1).trans hk⟩
theorem ZcL {W w:World}{B:Nat}{t:TypeId}{v:Value}(h:Boxed W B t v)(e:Ext W w):Boxed w B t v:=(e.block B h.lt).trans h
theorem ZlV {w7 w1:World}{B l0:Nat}{o:Obj}{v v' vB:Value}{n:Nat}{us:List Value}{lo m:Nat}{xs:List Value}(hh:w7.ownsRow l0 9 1 v m xs)(hrow:w7.ownsRow lo 54 1 vB n us)(hg:(w7.alloc o).grownBy w1 vB.ownBlock)(hb1:Boxed w1 B 50 vB):(w1.setCell ⟨B,0,none⟩ v').ownsRow l0 9 1 v m xs:=by
 have h1:=(hh.alloc o).kept hg (ZaK (hh.alloc o) (hrow.alloc o) (by decide))
 exact Zam h1 (.inr (hb1.not_row (by decide) h1).symm) v'
theorem ZoP {lo:Nat}{W:World}{us:List Value}{rs:List (List ByteArray)}(h:Zax lo W us rs){u:Value}{r:List ByteArray}(hu:W.ownsRow lo 9 1 u r.length (r.map Value.string)):Zax lo W (us++[u]) (rs++[r]):=by
 refine⟨by simp[h.1],fun i x v hx hv=>?_⟩
 by_cases hi:i<rs.length
 ·rw[List.getElem?_append_left hi] at hx
  rw[List.getElem?_append_left (by rw[h.1];exact hi)] at hv
  exact h.2 i x v hx hv
 ·have hl:=(zgs hx).1
  rw[List.length_append,List.length_singleton] at hl
  obtain rfl:i=rs.length:=by omega
  rw[List.getElem?_append_right (Nat.le_refl _),Nat.sub_self] at hx
  rw[←h.1,List.getElem?_append_right (Nat.le_refl _),Nat.sub_self] at hv
  cases hx
  cases hv
  exact hu
theorem Zc5.push {w7 w1:World}{lo B n0:Nat}{rs:List (List ByteArray)}{r:List ByteArray}{a:Option Addr}{c:Nat}{us:List Value}{u v':Value}{o:Obj}(hb:Boxed w7 B 50 (.slice a rs.length c))(hrow:w7.ownsRow lo 54 1 (.slice a rs.length c) rs.length us)(hrs:Zax lo w7 us rs)(hu:w7.ownsRow lo 9 1 u r.length (r.map Value.string))(hown:w1.ownsRow lo 54 1 v' (rs.length+1) (us++[u]))(hg:(w7.alloc o).grownBy w1 (Value.slice a rs.length c).ownBlock)(hn0:n0≤lo)(hB:n0≤B)(hlo:lo≤w7.heap.size):
  Boxed w1 B 50 (.slice a rs.length c)∧Zc5 lo B (rs++[r]) (w1.setCell ⟨B,0,none⟩ v')∧KeepsOthers w7 (w1.setCell ⟨B,0,none⟩ v')∧Below n0 w7 (w1.setCell ⟨B,0,none⟩ v')∧Zah (fun b=>b=B∨lo≤b) w7 (w1.setCell ⟨B,0,none⟩ v')∧(∀l0 vs qs,Zax l0 w7 vs qs→Zax l0 (w1.setCell ⟨B,0,none⟩ v') vs qs):=by
 obtain⟨q1,q2,q3,q4,q5⟩:=hb.appended (n₀:=n0) (by decide) (Zao hrow hn0) (Nat.le_trans hn0 hlo) hB (Zao hown hn0) hg
 obtain⟨g,c',rfl⟩:=ownsRow_succ hown
 have keepR:∀l0 vs qs,Zax l0 w7 vs qs→Zax l0 (w1.setCell ⟨B,0,none⟩ (.slice (some ⟨g,0,none⟩) (rs.length+1) c')) vs qs:=fun l0 vs qs hh=>⟨hh.1,fun i x v hx hv=>ZlV (hh.2 i x v hx hv) hrow hg q1⟩
 refine⟨q1,⟨us++[u],some ⟨g,0,none⟩,c',?_,?_,?_⟩,q4,q5,(((Zah.refl _ w7).alloc o).grown hg (fun b e=>.inl (.inr (hrow.lt b e).1))).set (.inl (.inl rfl)) _ _,keepR⟩
 ·rw[List.length_append,List.length_singleton]
  exact q2
 ·rw[List.length_append,List.length_singleton]
  exact Zam hown (.inr (q1.not_row (by decide) hown).symm) _
 ·exact ZoP (keepR _ _ _ hrs) (ZlV hu hrow hg q1)
def ZiR (rs:List (List ByteArray))(w:World)(e:Ending)(w':World):Prop:=∃a c us,e=.returned (.slice a rs.length c)∧w'.ownsRow w.heap.size 54 1 (.slice a rs.length c) rs.length us∧Zax w.heap.size w' us rs∧Ext w w'
theorem Zum (lo pb ar:Nat)(rs:List (List ByteArray))(w:World)(h:Zay w lo pb ar rs)(hn:rs.length≤1000000)(hr:∀r∈rs,r.length≤1000000):
  Calls Tryz.prog 13 #[.pointer (some ⟨pb,0,none⟩)] w (ZiR rs w):=by
 obtain⟨i0,hi,hz0,hz1,hz2⟩:=info_parts Zcu
 refine(callsIn_wide (n:=5)).1 ?_
 refine callsIn_of_wp_marks Tryz.func13 rfl trivial ?_
 simp only[Tryz.ntmps13,List.size_toArray,List.length_cons,List.length_nil,Nat.reduceAdd,Nat.reduceSub,Array.replicate_succ,Array.replicate_zero,List.push_toArray,List.append_toArray,List.nil_append,List.cons_append]
 have H1:=zh (h.ext (Zab (Below.refl _ w) (.cells #[.slice none 0 0] 50)))
 gi_wp2_with (first
  |(refine ⟨trivial,?_⟩;gi_at_call 41;refine(callsIn_wide.2 (Zi6 lo pb ar rs _ H1.out)).mono ?_;rintro e w1 ⟨rfl,hw1⟩;obtain rfl:=hw1.symm)
  |(refine ⟨trivial,?_⟩;gi_at_call 42;refine(callsIn_wide.2 (ZoO lo pb ar rs _ H1.out hn)).mono ?_;rintro e w2 ⟨bs,a2,c2,vs,rfl,hb1,hb2,hb3,hb4,hb5,hb6⟩))
 have sz0:(w.alloc (.cells #[.slice none 0 0] 50)).heap.size=w.heap.size+1:=by simp
 have hbx:=ZcL (Boxed.new w 50 (.slice none 0 0)) hb6
 have sz2:w.heap.size+1≤w2.heap.size:=by have:=hb6.size;omega
 have hE2:Ext w w2:=Zaa (Zab (Below.refl _ w) _) hb6
 have h1v:∀v∈vs,∃a m c,v=Value.slice a m c:=fun v hv=>by
  obtain⟨k,hk⟩:=List.mem_iff_getElem?.1 hv
  have hkl:=(zgs hk).1
  obtain⟨r,hrr⟩:∃r,rs[k]? =some r:=⟨_,zge (by have:=hb5.1;omega)⟩
  obtain⟨a,c,e,_⟩:=Zag (hb5.2 k r v hrr hk)
  exact⟨a,_,c,e⟩
 refine wpIn_rangeFunc_ownG (F:=Fence.wide) rfl (by omega) (gf:=125) (lb:=#[.pointer (some ⟨bs,0,none⟩)]) rfl trivial (enters_of Tryz.func125 (by kernel_rfl) rfl)
  (ZcK Fence.wide 4 trivial rfl (by omega) bs _ rs.length c2 a2 vs w2 hb4 h1v hn (fun b=>b=w.heap.size∨w2.heap.size≤b) (fun b e=>by have:=hb4.lt b e;omega) hb2 hb3) (fun h k=>h.trans k) (fun W l o o' hl _ _ _=>Zah.putObj W o' (.inr hl)) zbr (fun _=>rfl)
  (fun pre W=>Zc5 w2.heap.size w.heap.size (ZaM rs pre) W∧Zax lo W vs rs∧w2.heap.size≤W.heap.size∧Below w.heap.size w W)
  (fun _ _ _=>False)
  ?own
  (fun _ _ _ _ _ hs _ _=>hs)
  ⟨⟨[],none,0,hbx,World.ownsRow_nil _ _ _ _,rfl,fun i r v h=>by simp[ZaM] at h⟩,hb5.ext hb6,Nat.le_refl _,hE2⟩
  (fun x=>{tmps:=#[.pointer (some ⟨pb,0,none⟩),undef,.slice none 0 0,.pointer (some ⟨w.heap.size,0,none⟩),vs[x.1]?.getD undef,.pointer (some ⟨pb,0,none⟩),.pointer (some ⟨pb,0,none⟩),.func (.func 125) #[] #[.pointer (some ⟨bs,0,none⟩)],vs[x.1]?.getD undef,undef,undef,undef,undef,undef,undef],defers:=[]}) ?assign ?body ?done ?stop
 case own=>
  refine OwnFrom.and (Own.from (fun s A B row hs hg hr=>hs.keptN hg hr) _) (OwnFrom.and (Own.from (fun s A B row hs hg hr=>hs.keptN hg hr) _) (OwnFrom.and (fun s A B row hs hg hr=>Nat.le_trans hs hg.size) (ownFrom_below (Nat.le_refl _) (by omega))))
 case assign=>
  intro l x W K hK
  gi_wp2
  exact hK
 case body=>
  rintro l pre x W ⟨⟨us,a9,c9,bx9,row9,at9⟩,hvs,hsz,hE⟩ hlt
  obtain⟨r,hr1⟩:∃r,rs[x.1]? =some r:=⟨_,zge x.2⟩
  obtain⟨v,hv1⟩:∃v,vs[x.1]? =some v:=⟨_,zge (by rw[hvs.1];exact x.2)⟩
  have hrl:=hr r (zmg hr1)
  have ho1:=hvs.2 _ r v hr1 hv1
  obtain⟨a7,c7,rfl,_⟩:=Zag ho1
  have hpl:(ZaM rs pre).length=pre.length:=by simp[ZaM]
  have hv2:vs[x.1]?.getD undef=.slice a7 r.length c7:=by rw[hv1];rfl
  rw[hv2]
  obtain⟨qs,hqs⟩:∃qs,ZaM rs pre=qs:=⟨_,rfl⟩
  have HQS:Hid (ZaM rs (pre++[x])=qs++[r]):=by show _=_;rw[Zcl rs pre x hr1,hqs]
  rw[hqs] at bx9 row9 at9 hpl
  have CL:=zh (Ze4 r a7 r.length c7 W.drew (ZaL (ho1.drew) (Za4 ho1).1) (by omega) (ZaF ho1).2)
  have hc9:=bx9.cell
  have hBW:=bx9.lt
  have VS:=zh hvs
  have hql:qs.length≤1000000:=by omega
  clear hv2 hqs hvs hpl
  gi_wp2
  refine wpIn_region_any (by kernel_rfl) ?_
  change wpAnyIn _ _ _ _ _ _ _ _ _ (World.drew _)
  refine wpAnyIn_ready (rs:=[0,1]) (by kernel_rfl) (by simp) ?_
  refine(AllReadyIn.cons rfl (fun K hK=>?_) (AllReadyIn.cons rfl (fun K hK=>?_) AllReadyIn.nil))
  focus
   go_simp
   refine hK _ _ ?_
   clear hK K
   refine wpAnyIn_ready (rs:=[1]) (by kernel_rfl) (by simp) ?_
   refine(AllReadyIn.cons rfl (fun K hK=>?_) AllReadyIn.nil)
   focus
    go_simp
    refine hK _ _ ?_
    clear hK K
    refine wpAnyIn_ready (rs:=[2]) (by kernel_rfl) (by simp) ?_
    refine(AllReadyIn.cons rfl (fun K hK=>?_) AllReadyIn.nil)
    focus
     go_simp
     gi_wp2_with (refine ⟨trivial,?_⟩;gi_at_call 43;refine(CallsIn.inRound l (callsIn_wide.2 CL.out)).mono ?_;rintro e w7 ⟨a7',c7',rfl,q7,_,e7⟩;have hc7:=Zac e7 (show W.drew.cell? ⟨w.heap.size,0,none⟩=_ from hc9);have hc8:=fun o=>Zac (Zab (Below.refl _ w7) o) hc7)
     refine wpAnyIn_ready (rs:=[3]) (by kernel_rfl) (by simp) ?_
     refine(AllReadyIn.cons rfl (fun K hK=>?_) AllReadyIn.nil)
     focus
      go_simp
      refine hK _ _ ?_
      clear hK K
  rotate_left
  focus
   go_simp
   refine hK _ _ ?_
   clear hK K
   refine wpAnyIn_ready (rs:=[0,2]) (by kernel_rfl) (by simp) ?_
   refine(AllReadyIn.cons rfl (fun K hK=>?_) (AllReadyIn.cons rfl (fun K hK=>?_) AllReadyIn.nil))
   focus
    go_simp
    refine hK _ _ ?_
    clear hK K
    refine wpAnyIn_ready (rs:=[2]) (by kernel_rfl) (by simp) ?_
    refine(AllReadyIn.cons rfl (fun K hK=>?_) AllReadyIn.nil)
    focus
     go_simp
     gi_wp2_with (refine ⟨trivial,?_⟩;gi_at_call 43;refine(CallsIn.inRound l (callsIn_wide.2 CL.out)).mono ?_;rintro e w7 ⟨a7',c7',rfl,q7,_,e7⟩;have hc7:=Zac e7 (show W.drew.cell? ⟨w.heap.size,0,none⟩=_ from hc9);have hc8:=fun o=>Zac (Zab (Below.refl _ w7) o) hc7)
     refine wpAnyIn_ready (rs:=[3]) (by kernel_rfl) (by simp) ?_
     refine(AllReadyIn.cons rfl (fun K hK=>?_) AllReadyIn.nil)
     focus
      go_simp
      refine hK _ _ ?_
      clear hK K
   rotate_left
   focus
    go_simp
    gi_wp2_with (refine ⟨trivial,?_⟩;gi_at_call 43;refine(CallsIn.inRound l (callsIn_wide.2 CL.out)).mono ?_;rintro e w7 ⟨a7',c7',rfl,q7,_,e7⟩;have hc7:=Zac e7 (show W.drew.cell? ⟨w.heap.size,0,none⟩=_ from hc9);have hc8:=fun o=>Zac (Zab (Below.refl _ w7) o) hc7)
    refine wpAnyIn_ready (rs:=[0,3]) (by kernel_rfl) (by simp) ?_
    refine(AllReadyIn.cons rfl (fun K hK=>?_) (AllReadyIn.cons rfl (fun K hK=>?_) AllReadyIn.nil))
    focus
     go_simp
     refine hK _ _ ?_
     clear hK K
     refine wpAnyIn_ready (rs:=[3]) (by kernel_rfl) (by simp) ?_
     refine(AllReadyIn.cons rfl (fun K hK=>?_) AllReadyIn.nil)
     focus
      go_simp
      refine hK _ _ ?_
      clear hK K
    rotate_left
    focus
     go_simp
     refine hK _ _ ?_
     clear hK K
     refine wpAnyIn_ready (rs:=[0]) (by kernel_rfl) (by simp) ?_
     refine(AllReadyIn.cons rfl (fun K hK=>?_) AllReadyIn.nil)
     focus
      go_simp
      refine hK _ _ ?_
      clear hK K
  all_goals
   have bxW:=ZcL (ZcL bx9 (Zaf (Below.refl _ W))) e7
   have rowW:=Zar (Zar row9 (Zaf (Below.refl _ W))) e7
   have atW:=(at9.ext (Zaf (Below.refl _ W))).ext e7
   refine wpAnyIn_ready (rs:=[4]) (by kernel_rfl) (by simp) ?_
   refine AllReadyIn.cons rfl (fun K hK=>?_) AllReadyIn.nil
   refine Zfv rfl _ _ 50 rfl w2.heap.size 54 i0 (.slice none 0 0) 1 24 Tryz.underlying50 hi hz0 hz1 hz2 rfl (by decide) (.slice a9 qs.length c9) qs.length us rfl (rowW.alloc _) ⟨w7.heap.size,0,none⟩ 1 1 [.slice a7' r.length c7'] rfl rfl (cell_one_new _ _ _) (by simp[Value.oneCell']) (by unfold maxLen;omega) (by omega) (by have:=e7.size;simp at this ⊢;omega) ?_
   intro v' w1 hown' hgrow
   obtain⟨g',cap',rfl⟩:=ownsRow_succ hown'
   refine hK _ _ ?_
   clear hK K
   obtain⟨p1,p2,p3,p4,p5,p6⟩:=Zc5.push (n0:=w.heap.size) bxW rowW atW (Zao q7 (by simpa using hsz)) hown' hgrow (by omega) (Nat.le_refl _) (by have:=e7.size;simp at this;omega)
   have hc1:=p1.cell
   have hf1:=p1.frozen
   refine wpAnyIn_ready (rs:=[5]) (by kernel_rfl) (by simp) ?_
   refine AllReadyIn.cons rfl (fun K hK=>?_) AllReadyIn.nil
   go_simp
   refine hK _ _ ?_
   clear hK K
   refine wpAnyIn_done (by kernel_rfl) ?_ _
   have eD:Ext W w7:=Zaa (Zaf (Below.refl _ W)) e7
   gi_wp2
   exact⟨((KeepsOthers.ext eD).trans p3).from _,((Zah.refl _ W).ext eD).trans p5,by rw[HQS.out];exact p2,p6 _ _ _ (VS.out.ext eD),Nat.le_trans hsz (Nat.le_trans eD.size p5.size),hE.trans ((eD.mono (by have:=hE.size;omega)).trans p4)⟩
 case done=>
  rintro D ys W hD rfl ⟨⟨us,a9,c9,bx9,row9,at9⟩,hvs,hsz,hE⟩ hK
  rw[ZdD rs (Nat.le_refl _),List.take_length] at bx9 row9 at9
  have hc9:=bx9.cell
  gi_wp2
  refine⟨by simp,.inl ⟨_,_,rfl,run_takeDeferred hK,?_⟩⟩
  have hg:=grownBy_putObj' W D (.deferred none)
  have hr:∀r,some D=some r→∃o:Obj,W.heap[r]? =some o∧o.isCells=false:=fun r e=>by cases e;exact⟨_,hK,rfl⟩
  have at10:=at9.keptN hg hr
  exact⟨_,results_tmp rfl _ _ _,a9,c9,us,rfl,Zao (ZdC row9 hg hr) (by omega),⟨at10.1,fun i r v h1 h2=>Zao (at10.2 i r v h1 h2) (by omega)⟩,hE.trans (belowK_b (w:=w) (Nat.le_refl _) W D _ _ (by omega) hK rfl rfl)⟩
 case stop=>
  rintro D c pre W _ _ h _
  exact h.elim
