/- The walk of the trie's find. -/
import Derived.Test.YtjfbjjmiobgjfaaGreatG8
set_option maxRecDepth 100000
set_option maxHeartbeats 8000000
namespace Go.Proofs.YtjfbjjmiobgjfaaGreat
open ChangeShapes WideShapes ChangeAt RowKit
structure Zgr (ways:List (List ByteArray))(b:List ByteArray)(i p A B:Nat):Prop where
 seg:Seg ways i A B
 lt:A<B
 pre:(Za9 ways A).take i=b.take i
 all:∀m,m<ways.length→(Za9 ways m).take i=b.take i→A≤m∧m<B
 zero:i=0→p=0∧A=0∧B=ways.length
 pos:0<i→p<wid ways (i-1) ways.length∧A=st ways (i-1) p∧B=st ways (i-1) (p+1)
theorem Zgr.start {ways:List (List ByteArray)}(b:List ByteArray)(h:0<ways.length):Zgr ways b 0 0 0 ways.length:=⟨Zmg ways,h,rfl,fun _ hm _=>⟨Nat.zero_le _,hm⟩,fun _=>⟨rfl,rfl,rfl⟩,fun h=>absurd h (Nat.lt_irrefl _)⟩
theorem Zgr.pre_at {ways:List (List ByteArray)}{b:List ByteArray}{i p A B:Nat}(h:Zgr ways b i p A B){m:Nat}(h1:A≤m)(h2:m<B):(Za9 ways m).take i=b.take i:=(h.seg.same m h1 h2).trans h.pre
def ZbE (ways:List (List ByteArray))(k A B:Nat):List ByteArray:=((Zcc ways k ways.length).drop (wid ways k A)).take (wid ways k B-wid ways k A)
def Zq4 (d:Nat)(ways:List (List ByteArray))(b xs:List ByteArray):Prop:=(∃p A B,b.length<d∧Zgr ways b b.length p A B∧xs=ZbE ways b.length A B)∨((d≤b.length∨∀m,m<ways.length→(Za9 ways m).take b.length≠b)∧xs=[])
inductive CurSt (d:Nat)(ways:List (List ByteArray)):List (Nat×Nat)→Nat→Nat→Prop
 |one (f:Nat):0<d→0<ways.length→f≤wid ways 0 ways.length→CurSt d ways [(f,wid ways 0 ways.length)] 0 ways.length
 |more (pre:List (Nat×Nat)) (f t A B f2:Nat):CurSt d ways (pre++[(f,t)]) A B→f<t→pre.length+1<d→wid ways (pre.length+1) (st ways pre.length f)≤f2→f2≤wid ways (pre.length+1) (st ways pre.length (f+1))→CurSt d ways (pre++[(f,t)]++[(f2,wid ways (pre.length+1) (st ways pre.length (f+1)))]) (st ways pre.length f) (st ways pre.length (f+1))
def ZcT (ways:List (List ByteArray))(sp:List (Nat×Nat)):List ByteArray:=sp.mapIdx fun i s=>ZbP ways i (st ways i s.1)
theorem ZeZ (ways:List (List ByteArray))(pre:List (Nat×Nat))(s:Nat×Nat):ZcT ways (pre++[s])=ZcT ways pre++[ZbP ways pre.length (st ways pre.length s.1)]:=by
 unfold ZcT
 rw[List.mapIdx_append]
 simp
theorem Zif (ways:List (List ByteArray))(sp:List (Nat×Nat)):(ZcT ways sp).length=sp.length:=by simp[ZcT]
theorem ZcH {α:Type}{a b:List α}{x y:α}(h:a++[x]=b++[y]):a=b∧x=y:=by
 have:=List.append_inj' h rfl
 exact⟨this.1,by simpa using this.2⟩
structure ZbJ (d:Nat)(ways:List (List ByteArray))(pre:List (Nat×Nat))(f t A B:Nat):Prop where
 seg:Seg ways pre.length A B
 lt:A<B
 top:t=wid ways pre.length B
 ge:wid ways pre.length A≤f
 le:f≤t
 dep:pre.length<d
 pre:(Za9 ways A).take pre.length=ZcT ways pre
 pos:0<ways.length
theorem CurSt.facts {d:Nat}{ways:List (List ByteArray)}(hw:ZcE d ways){sp:List (Nat×Nat)}{A B:Nat}(h:CurSt d ways sp A B):∀pre f t,sp=pre++[(f,t)]→ZbJ d ways pre f t A B:=by
 induction h with
 |one f0 hd hN hf=>
  intro pre f t e
  have e2:([]:List (Nat×Nat))++[(f0,wid ways 0 ways.length)]=pre++[(f,t)]:=e
  obtain⟨rfl,e3⟩:=ZcH e2
  cases e3
  exact⟨Zmg ways,hN,rfl,Nat.zero_le _,hf,hd,by simp[ZcT],hN⟩
 |more pre0 f0 t0 A0 B0 f2 h0 hlt hd h1 h2 ih=>
  intro pre f t e
  obtain⟨rfl,e3⟩:=ZcH e
  cases e3
  have F:=ih pre0 f0 t0 rfl
  have hb:=ZaY ways pre0.length F.seg.top
  have hj:f0<wid ways pre0.length ways.length:=by have:=F.top;omega
  have hl:(pre0++[(f0,t0)]).length=pre0.length+1:=by simp
  have hs:=Zdl ways pre0.length f0 hj
  obtain⟨p1,p2,_⟩:=F.seg.place F.ge (by have:=F.top;omega)
  refine⟨?_,Zpm ways pre0.length (Nat.lt_succ_self f0) hj,by rw[hl],by rw[hl];exact h1,h2,by rw[hl];exact hd,?_,F.pos⟩
  ·rw[hl]
   exact Zj6 ways pre0.length f0 hj
  ·rw[hl,Zdf hw hs.1 F.dep,F.seg.same _ p1 p2,F.pre,ZeZ]
theorem CurSt.ne {d:Nat}{ways:List (List ByteArray)}{sp:List (Nat×Nat)}{A B:Nat}(h:CurSt d ways sp A B):sp≠[]:=by
 induction h <;> simp
theorem CurSt.pop {d:Nat}{ways:List (List ByteArray)}{sp:List (Nat×Nat)}{A B:Nat}(h:CurSt d ways sp A B):∀pre s,sp=pre++[s]→pre=[]∨∃pre0 f t A0 B0,pre=pre0++[(f,t)]∧f<t∧CurSt d ways pre A0 B0∧A=st ways pre0.length f∧B=st ways pre0.length (f+1):=by
 cases h with
 |one f0 hd hN hf=>
  intro pre s e
  have e2:([]:List (Nat×Nat))++[(f0,wid ways 0 ways.length)]=pre++[s]:=e
  exact .inl (ZcH e2).1.symm
 |more pre0 f0 t0 A0 B0 f2 h0 hlt hd h1 h2=>
  intro pre s e
  obtain⟨rfl,_⟩:=ZcH e
  exact .inr ⟨pre0,f0,t0,A0,B0,rfl,hlt,h0,rfl,rfl⟩
theorem CurSt.move {d:Nat}{ways:List (List ByteArray)}{sp:List (Nat×Nat)}{A B:Nat}(h:CurSt d ways sp A B):∀pre f t f',sp=pre++[(f,t)]→wid ways pre.length A≤f'→f'≤t→CurSt d ways (pre++[(f',t)]) A B:=by
 cases h with
 |one f0 hd hN hf=>
  intro pre f t f' e h1 h2
  have e2:([]:List (Nat×Nat))++[(f0,wid ways 0 ways.length)]=pre++[(f,t)]:=e
  obtain⟨rfl,e3⟩:=ZcH e2
  cases e3
  exact .one f' hd hN h2
 |more pre0 f0 t0 A0 B0 f2 h0 hlt hd h3 h4=>
  intro pre f t f' e h1 h2
  obtain⟨rfl,e3⟩:=ZcH e
  cases e3
  have hl:(pre0++[(f0,t0)]).length=pre0.length+1:=by simp
  rw[hl] at h1
  exact .more pre0 f0 t0 A0 B0 f' h0 hlt hd h1 h2
def Zle (sp:List (Nat×Nat)):Bool:=match sp.getLast? with
 |some s=>decide (s.1=s.2)
 |none=>false
theorem Zmh:Zle []=false:=rfl
theorem Zbu (pre:List (Nat×Nat))(f t:Nat):Zle (pre++[(f,t)])=decide (f=t):=by simp[Zle]
def Znb (ways:List (List ByteArray))(sp:List (Nat×Nat)):Nat×Nat:=match sp.getLast? with
 |some s=>(wid ways sp.length (st ways (sp.length-1) s.1),wid ways sp.length (st ways (sp.length-1) (s.1+1)))
 |none=>(0,wid ways 0 ways.length)
theorem Zpw (ways:List (List ByteArray)):Znb ways []=(0,wid ways 0 ways.length):=rfl
theorem Zgh (ways:List (List ByteArray))(pre:List (Nat×Nat))(f t:Nat):Znb ways (pre++[(f,t)])=(wid ways (pre.length+1) (st ways pre.length f),wid ways (pre.length+1) (st ways pre.length (f+1))):=by simp[Znb]
def ZbW (d:Nat)(ways:List (List ByteArray))(sp:List (Nat×Nat)):Prop:=sp=[]∨∃A B,CurSt d ways sp A B
def ZcS (d:Nat)(ways:List (List ByteArray))(sp:List (Nat×Nat)):Bool:=!(Zle sp)&&!decide (sp.length=d)&&!decide (ways.length=0)
theorem ZbW.open_ok {d:Nat}{ways:List (List ByteArray)}(hw:ZcE d ways){sp:List (Nat×Nat)}(h:ZbW d ways sp)(hm:ZcS d ways sp=true):ZbW d ways (sp++[Znb ways sp]):=by
 unfold ZcS at hm
 simp only[Bool.and_eq_true,Bool.not_eq_true',decide_eq_false_iff_not] at hm
 obtain⟨⟨h1,h2⟩,h3⟩:=hm
 rcases h with rfl|⟨A,B,h⟩
 ·refine .inr ⟨0,ways.length,?_⟩
  have:0<d:=by
   rcases Nat.eq_zero_or_pos d with e|e
   ·subst e;exact absurd rfl h2
   ·exact e
  exact .one 0 this (by omega) (Nat.zero_le _)
 ·rcases sp.eq_nil_or_concat with rfl|⟨pre,s,e⟩
  ·exact absurd rfl h.ne
  ·obtain⟨f,t⟩:=s
   rw[List.concat_eq_append] at e
   subst e
   have F:=h.facts hw pre f t rfl
   rw[Zbu] at h1
   have h1':f≠t:=by simpa using h1
   have hl:(pre++[(f,t)]).length=pre.length+1:=by simp
   rw[hl] at h2
   have hlt:f<t:=by have:=F.le;omega
   rw[Zgh]
   exact .inr ⟨_,_,.more pre f t A B _ h hlt (by have:=F.dep;omega) (Nat.le_refl _) (ZaY ways _ (Zk6 ways pre.length (Nat.le_succ f) (by have:=F.top;have:=ZaY ways pre.length F.seg.top;omega)))⟩
def spV (sp:List (Nat×Nat)):List Value:=sp.flatMap fun s=>[.int .i64 (s.1:Nat),.int .i64 (s.2:Nat)]
theorem Zi1 (sp:List (Nat×Nat)):(spV sp).length=sp.length*2:=by
 induction sp with
 |nil=>rfl
 |cons s sp ih=>unfold spV at *;rw[List.flatMap_cons,List.length_append,ih,List.length_cons];simp;omega
theorem ZgL (pre:List (Nat×Nat))(s:Nat×Nat):spV (pre++[s])=spV pre++[.int .i64 (s.1:Nat),.int .i64 (s.2:Nat)]:=by simp[spV]
theorem ZuC (sp:List (Nat×Nat))(i:Nat)(s:Nat×Nat)(h:sp[i]? =some s):(spV sp)[i*2]? =some (.int .i64 (s.1:Nat))∧(spV sp)[i*2+1]? =some (.int .i64 (s.2:Nat)):=by
 induction sp generalizing i with
 |nil=>simp at h
 |cons a sp ih=>
  unfold spV at*
  cases i with
  |zero=>
   rw[List.getElem?_cons_zero] at h
   cases h
   simp
  |succ i=>
   rw[List.getElem?_cons_succ] at h
   have:=ih i h
   rw[show (i+1)*2=i*2+1+1 by omega]
   simpa using this
structure Zcz (w:World)(lo pc pt:Nat)(rb:Option Nat)(sp:List (Nat×Nat)):Prop where
 top:∃a c,w.heap[pc]? =some (.cells #[.pointer (some ⟨pt,0,none⟩),.slice a sp.length c] 206 (0,0))∧w.ownsRow lo 231 2 (.slice a sp.length c) sp.length (spV sp)∧(Value.slice a sp.length c).ownBlock=rb
 lo:lo≤pc
theorem Zcz.cells {w:World}{lo pc pt:Nat}{rb:Option Nat}{sp:List (Nat×Nat)}(h:Zcz w lo pc pt rb sp):∃a c,w.cell? ⟨pc,0,none⟩=some (.pointer (some ⟨pt,0,none⟩))∧w.cell? ⟨pc,1,none⟩=some (.slice a sp.length c)∧w.frozen? ⟨pc,1,none⟩=false∧pc<w.heap.size∧sp.length≤c:=by
 obtain⟨⟨a,c,h1,h2,h3⟩,_⟩:=h
 refine⟨a,c,by simp[World.cell?,h1],by simp[World.cell?,h1],by simp[World.frozen?,h1],(zag h1).1,?_⟩
 exact(ZaF h2).1
theorem Zcz.ne {w:World}{lo pc pt:Nat}{rb:Option Nat}{sp:List (Nat×Nat)}(h:Zcz w lo pc pt rb sp){g:Nat}(hg:rb=some g):g≠pc∧lo≤g∧g<w.heap.size:=by
 obtain⟨⟨a,c,h1,h2,h3⟩,_⟩:=h
 rw[hg] at h3
 obtain⟨l1,l2⟩:=h2.lt g h3
 refine⟨?_,l1,l2⟩
 rcases h2.2 with⟨e,_⟩|⟨g',c',cur,e,_,hg',_⟩
 ·rw[e] at h3;cases h3
 ·rw[e] at h3
  cases h3
  rintro rfl
  rw[h1] at hg'
  cases hg'
theorem Zcz.last {w:World}{lo pc pt:Nat}{rb:Option Nat}{pre:List (Nat×Nat)}{f t:Nat}(h:Zcz w lo pc pt rb (pre++[(f,t)])):∃g c,rb=some g∧w.cell? ⟨pc,0,none⟩=some (.pointer (some ⟨pt,0,none⟩))∧w.cell? ⟨pc,1,none⟩=some (.slice (some ⟨g,0,none⟩) (pre.length+1) c)∧w.frozen? ⟨pc,1,none⟩=false∧pre.length+1≤c∧w.cell? ⟨g,pre.length*2,none⟩=some (.int .i64 (f:Nat))∧w.cell? ⟨g,pre.length*2+1,none⟩=some (.int .i64 (t:Nat))∧w.frozen? ⟨g,pre.length*2,none⟩=false∧c≤maxLen:=by
 obtain⟨⟨a,c,h1,h2,h3⟩,_⟩:=h
 have hl:(pre++[(f,t)]).length=pre.length+1:=by simp
 rw[hl] at h1 h2 h3
 rcases h2.2 with⟨e,e2⟩|⟨g,c',cur,e,hb,hg,hnc,hcm,hcs,ht⟩
 ·omega
 ·cases e
  obtain⟨s1,s2⟩:=ZuC (pre++[(f,t)]) pre.length (f,t) (by simp)
  have c1:=h2.cells (g:=g) rfl _ _ s1
  have c2:=h2.cells (g:=g) rfl _ _ s2
  rw[Addr.add_lit,Nat.zero_add] at c1 c2
  exact⟨g,c,h3.symm,by simp[World.cell?,h1],by simp[World.cell?,h1],by simp[World.frozen?,h1],hnc,c1,c2,by simp[World.frozen?,hg],hcm⟩
theorem Zcz.ext {w w':World}{lo pc pt:Nat}{rb:Option Nat}{sp:List (Nat×Nat)}(h:Zcz w lo pc pt rb sp)(e:Ext w w'):Zcz w' lo pc pt rb sp:=by
 obtain⟨⟨a,c,h1,h2,h3⟩,h4⟩:=h
 exact⟨⟨a,c,(e.block pc (zag h1).1).trans h1,Zar h2 e,h3⟩,h4⟩
def Zj7 (pc:Nat)(rb:Option Nat)(b:Nat):Prop:=b=pc∨rb=some b
theorem Zcz.buts {w w':World}{lo pc pt:Nat}{rb:Option Nat}{sp:List (Nat×Nat)}{S:Nat→Prop}(h:Zcz w lo pc pt rb sp)(e:Zah S w w')(hs:∀b,Zj7 pc rb b→¬S b):Zcz w' lo pc pt rb sp:=by
 obtain⟨⟨a,c,h1,h2,h3⟩,h4⟩:=h
 exact⟨⟨a,c,(e.block pc (zag h1).1 (hs pc (.inl rfl))).trans h1,e.own h2 (fun b hb=>hs b (.inr (by rw[←h3];exact hb))),h3⟩,h4⟩
theorem Zcz.move {w:World}{lo pc pt g:Nat}{pre:List (Nat×Nat)}{f t:Nat}(h:Zcz w lo pc pt (some g) (pre++[(f,t)]))(f':Nat):Zcz (w.setCell ⟨g,pre.length*2,none⟩ (.int .i64 (f':Nat))) lo pc pt (some g) (pre++[(f',t)])∧Zah (Zj7 pc (some g)) w (w.setCell ⟨g,pre.length*2,none⟩ (.int .i64 (f':Nat))):=by
 have hne:=(h.ne rfl).1
 obtain⟨⟨a,c,h1,h2,h3⟩,h4⟩:=h
 have hl:(pre++[(f,t)]).length=pre.length+1:=by simp
 have hl2:(pre++[(f',t)]).length=pre.length+1:=by simp
 rw[hl] at h1 h2 h3
 rcases h2.2 with⟨e,e2⟩|⟨g',c',cur,e,hb,hg,hnc,hcm,hcs,ht⟩
 ·omega
 ·cases e
  have e3:g=g':=(Option.some.inj h3).symm
  subst e3
  obtain⟨k1,k2⟩:=h2.stored (pre.length*2) (.int .i64 (f':Nat))
  have e:(spV (pre++[(f,t)])).set (pre.length*2) (.int .i64 (f':Nat))=spV (pre++[(f',t)]):=by
   rw[ZgL,ZgL,List.set_append_right _ _ (by rw[Zi1];exact Nat.le_refl _),Zi1,Nat.sub_self]
   rfl
  rw[e] at k1
  refine⟨⟨⟨some ⟨g,0,none⟩,c,?_,?_,?_⟩,h4⟩,(Zah.refl _ w).set (.inl (.inr rfl)) _ _⟩
  ·rw[hl2,heap_setCell_other _ _ _ _ (fun e=>hne e.symm)]
   exact h1
  ·rw[hl2]
   exact k1
  ·rw[hl2]
   rfl
theorem ZuD (pt d:Nat)(ways:List (List ByteArray))(lo:Nat)(w:World)(h:ZbV w pt d ways)(hlo:lo≤w.heap.size):
  Calls Tryz.prog 107 #[.pointer (some ⟨pt,0,none⟩)] w fun e w'=>e=.returned (.pointer (some ⟨w.heap.size,0,none⟩))∧Zcz w' lo w.heap.size pt none []∧Ext w w':=by
 have NO:=zh (Zps pt d ways w h)
 clear h
 go_enter Tryz.func107,Tryz.ntmps107
 go_wp2_with (go_at_call 135;(with_reducible refine NO.out.mono ?_);rintro e w1 ⟨rfl,hw1⟩;obtain rfl:=hw1.symm)
 go_returns
 exact⟨rfl,⟨⟨none,0,heap_alloc_new w _,World.ownsRow_nil _ _ _ _,rfl⟩,hlo⟩,Zab zbr _⟩
theorem ZdJ (pc pt lo:Nat)(rb:Option Nat)(w:World)(h:Zcz w lo pc pt rb []):
  Calls Tryz.prog 158 #[.pointer (some ⟨pc,0,none⟩)] w fun e w'=>e=.returned (.pointer none)∧w'=w:=by
 obtain⟨a,c,h0,h1,_⟩:=h.cells
 rw[List.length_nil] at h1
 clear h
 go_enter Tryz.func158,Tryz.ntmps158
 go_wp2
 go_returns
 exact⟨rfl,rfl⟩
theorem Zgs (pc pt lo g:Nat)(pre:List (Nat×Nat))(f t:Nat)(w:World)(h:Zcz w lo pc pt (some g) (pre++[(f,t)])):
  Calls Tryz.prog 158 #[.pointer (some ⟨pc,0,none⟩)] w fun e w'=>e=.returned (.pointer (some ⟨g,pre.length*2,none⟩))∧∃q,w'=w.drewN q:=by
 obtain⟨g',c,e,h0,h1,_,hc,_,_,_,hcm⟩:=h.last
 cases e
 obtain⟨k,hk⟩:∃k,pre.length=k:=⟨_,rfl⟩
 rw[hk] at h1 hc ⊢
 have hcm2:c≤9223372036854775807:=hcm
 have q1:((k:Int)+1==0)=false:=beq_eq_false_iff_ne.2 (by omega)
 have r1:IntKind.i64.wrap (k:Int)=(k:Int):=by rw[IntKind.wrap_i64];omega
 have r2:(k:Int)<(k:Int)+1:=by omega
 clear h hk hcm
 go_enter Tryz.func158,Tryz.ntmps158
 go_wp2
 go_quiet (fail)
 go_wp2
 go_returns
 exact⟨rfl,_,rfl⟩
theorem Zvc (pc pt lo:Nat)(rb:Option Nat)(sp:List (Nat×Nat))(w:World)(h:Zcz w lo pc pt rb sp):
  Calls Tryz.prog 155 #[.pointer (some ⟨pc,0,none⟩)] w fun e w'=>e=.returned (.int .i64 (sp.length:Nat))∧w'=w:=by
 obtain⟨a,c,h0,h1,_⟩:=h.cells
 clear h
 go_enter Tryz.func155,Tryz.ntmps155
 go_wp2
 go_returns
 exact⟨rfl,rfl⟩
theorem Zc9 (pc pt lo:Nat)(rb:Option Nat)(sp:List (Nat×Nat))(w:World)(h:Zcz w lo pc pt rb sp):
  Calls Tryz.prog 154 #[.pointer (some ⟨pc,0,none⟩)] w fun e w'=>e=.returned (.bool (Zle sp))∧∃q,w'=w.drewN q:=by
 rcases sp.eq_nil_or_concat with rfl|⟨pre,⟨f,t⟩,e⟩
 ·have L:=zh (ZdJ pc pt lo rb w h)
  clear h
  rw[Zmh]
  go_enter Tryz.func154,Tryz.ntmps154
  go_wp2_with (go_at_call 158;(with_reducible refine L.out.mono ?_);rintro e w1 ⟨rfl,hw1⟩;obtain rfl:=hw1.symm)
  go_quiet (fail)
  go_wp2
  go_returns
  exact⟨rfl,_,rfl⟩
 ·rw[List.concat_eq_append] at e
  subst e
  obtain⟨g,c,rfl,h0,h1,_,_,z0,z1,_⟩:=h.last
  have L:=zh (Zgs pc pt lo g pre f t w h)
  rw[Zbu]
  obtain⟨b,hb⟩:∃b,decide (f=t)=b:=⟨_,rfl⟩
  have hb2:((f:Int)==(t:Int))=b:=by rw[←hb,Bool.eq_iff_iff];simp;omega
  rw[hb]
  clear h hb
  go_enter Tryz.func154,Tryz.ntmps154
  go_wp2_with (go_at_call 158;(with_reducible refine L.out.mono ?_);rintro e w1 ⟨rfl,q1,hw1⟩;obtain rfl:=hw1.symm)
  go_quiet (fail)
  go_wp2
  go_returns
  exact⟨by first|rfl|(rw [hb2]),_,by rw[World.drewN_drewN]⟩
