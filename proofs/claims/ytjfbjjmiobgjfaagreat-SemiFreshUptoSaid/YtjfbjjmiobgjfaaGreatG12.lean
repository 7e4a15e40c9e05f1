/- A cursor's Key again: it only draws. -/
import Derived.Test.YtjfbjjmiobgjfaaGreatG11
set_option maxRecDepth 100000
set_option maxHeartbeats 8000000
namespace Go.Proofs.YtjfbjjmiobgjfaaGreat
open ChangeShapes WideShapes ChangeAt RowKit
theorem Ztp (pc pt lo g d:Nat)(ways:List (List ByteArray))(pre:List (Nat×Nat))(f t A B:Nat)(w:World)(h:Zcz w lo pc pt (some g) (pre++[(f,t)]))(ht:ZbV w pt d ways)(hf:ZbJ d ways pre f t A B)(hft:f<t):
  Calls Tryz.prog 160 #[.pointer (some ⟨pc,0,none⟩)] w fun e w'=>e=.returned (.string (ZbP ways pre.length (st ways pre.length f)))∧∃q,w'=w.drewN q:=by
 have L:=zh (Zgs pc pt lo g pre f t w h)
 have H:=zh h
 obtain⟨g',c,e,y0,y1,_,hc,z0,z1,z2,hcm⟩:=h.last
 cases e
 have AE:Hid (∀w1,(∃q,w1=w.drewN q)→Calls Tryz.prog 154 #[.pointer (some ⟨pc,0,none⟩)] w1 fun e w'=>e=.returned (.bool false)∧∃q,w'=w.drewN q):=fun w1 ⟨q1,hq1⟩=>by
  subst hq1
  have A:=Zc9 pc pt lo (some g) (pre++[(f,t)]) _ (H.out.ext (Zae zbr q1))
  rw[Zbu,show decide (f=t)=false by simp;omega] at A
  exact A.mono fun e w' ⟨r1,q,r2⟩=>⟨r1,q1+q,by rw[r2,World.drewN_drewN]⟩
 obtain⟨gl,kb,ko,kc,t0,t1,t2,hfN⟩:=ht.reads hf hft
 have hdep:=hf.dep
 obtain⟨x,hx⟩:∃x,ZbP ways pre.length (st ways pre.length f)=x:=⟨_,rfl⟩
 rw[hx] at t2 ⊢
 obtain⟨M,hM⟩:∃M,wid ways pre.length ways.length=M:=⟨_,rfl⟩
 rw[hM] at t1 hfN
 obtain⟨k,hk⟩:∃k,pre.length=k:=⟨_,rfl⟩
 rw[hk] at L y1 z0 z1 z2 hc t1 hdep
 have hcm2:c≤9223372036854775807:=hcm
 have r1:IntKind.i64.wrap (k:Int)=(k:Int):=by rw[IntKind.wrap_i64];omega
 have r2:(k:Int)<(d:Int):=by omega
 have r3:(f:Int)<(M:Int):=by omega
 clear h hft hx hf hk ht hcm hM
 go_enter Tryz.func160,Tryz.ntmps160
 go_upto_region 4 with (first
  |(go_at_call 158;(with_reducible refine L.out.mono ?_);rintro e w1 ⟨rfl,hw1⟩;have Q1:=zh hw1;clear hw1)
  |(go_at_call 154;(with_reducible refine(AE.out _ Q1.out).mono ?_);rintro e w2 ⟨rfl,hw2⟩;have Q2:=zh hw2;clear hw2))
 have E2:Ext w w2:=by obtain⟨q,hq⟩:=Q2.out;rw[hq];exact Zae zbr q
 have k0:=Zac E2 z0
 have k3:=Zac E2 y0
 have k4:=Zac E2 y1
 have k5:=Zac E2 t0
 have k6:=Zac E2 t1
 have k7:=Zac E2 t2
 go_quiet (fail)
 go_wp2
 go_returns
 exact⟨rfl,by obtain⟨q,hq⟩:=Q2.out;exact⟨_,by rw[hq,World.drewN_drewN]⟩⟩
def Zgy (w:World)(lo pc pt d:Nat)(ways:List (List ByteArray))(S:Nat→Prop)(ls:List RLv):Prop:=∃rb sp,Zcz w lo pc pt rb sp∧ZbW d ways sp∧Zij ways sp=ls∧S=Zj7 pc rb
theorem Zgy.buts {w w':World}{lo pc pt d:Nat}{ways:List (List ByteArray)}{S T:Nat→Prop}{ls:List RLv}(h:Zgy w lo pc pt d ways S ls)(e:Zah T w w')(hs:∀b,S b→¬T b):Zgy w' lo pc pt d ways S ls:=by
 obtain⟨rb,sp,h1,h2,h3,rfl⟩:=h
 exact⟨rb,sp,h1.buts e hs,h2,h3,rfl⟩
theorem Zgy.ext {w w':World}{lo pc pt d:Nat}{ways:List (List ByteArray)}{S:Nat→Prop}{ls:List RLv}(h:Zgy w lo pc pt d ways S ls)(e:Ext w w'):Zgy w' lo pc pt d ways S ls:=by
 obtain⟨rb,sp,h1,h2,h3,h4⟩:=h
 exact⟨rb,sp,h1.ext e,h2,h3,h4⟩
def Zmn (lo pc pt d:Nat)(ways:List (List ByteArray))(S:Nat→Prop)(ls:List RLv)(w w':World):Prop:=∃S',Zgy w' lo pc pt d ways S' ls∧Zah S w w'∧∀b,S' b→S b∨w.heap.size≤b
theorem Zmn.of_step {lo pc pt d:Nat}{ways:List (List ByteArray)}{rb:Option Nat}{sp:List (Nat×Nat)}{b:Bool}{w w':World}{e:Ending}(h:ZbX lo pc pt rb sp b w e w')(hc:ZbW d ways sp):e=.returned (.bool b)∧Zmn lo pc pt d ways (Zj7 pc rb) (Zij ways sp) w w':=by
 obtain⟨rb',h1,h2,h3,h4⟩:=h
 refine⟨h1,Zj7 pc rb',⟨rb',sp,h2,hc,rfl,rfl⟩,h3,fun x hx=>?_⟩
 rcases hx with rfl|hx
 ·exact .inl (.inl rfl)
 ·rcases h4 x hx with h|h
  ·exact .inl (.inr h)
  ·exact .inr h
section
variable {w:World} {lo pc pt d:Nat} {ways:List (List ByteArray)} {S:Nat→Prop} {ls:List RLv}
theorem Zgy.shape (hw:ZcE d ways){l:List ByteArray}{k:Nat}(h:Zgy w lo pc pt d ways S (ls++[(l,k)])):∃rb pre f t,Zcz w lo pc pt rb (pre++[(f,t)])∧ZbW d ways (pre++[(f,t)])∧Zij ways pre=ls∧Zgx ways pre f=(l,k)∧S=Zj7 pc rb∧(f≠t↔k<l.length)∧k≤l.length:=by
 obtain⟨rb,sp,h1,h2,h3,h4⟩:=h
 rcases Zbq sp with rfl|⟨pre,⟨f,t⟩,rfl⟩
 ·have:=congrArg List.length h3
  simp[Zij] at this
 ·rw[Zcq] at h3
  obtain⟨A,B,hs,F,e,hl,hge⟩:=(h2.lv hw).ok
  have h5:=(ZcH h3).2
  have hle:=F.le
  rw[e] at h5
  cases h5
  exact⟨rb,pre,f,t,h1,h2,(ZcH h3).1,e,h4,by rw[hl];omega,by rw[hl];omega⟩
theorem Ztq (h:ZbV w pt d ways)(hlo:lo≤w.heap.size):
  Calls Tryz.prog 107 #[.pointer (some ⟨pt,0,none⟩)] w fun e w'=>e=.returned (.pointer (some ⟨w.heap.size,0,none⟩))∧Zgy w' lo w.heap.size pt d ways (fun b=>b=w.heap.size) []∧Ext w w':=
 (ZuD pt d ways lo w h hlo).mono fun e w' ⟨h1,h2,h3⟩=>⟨h1,⟨none,[],h2,.inl rfl,rfl,by funext b;simp[Zj7]⟩,h3⟩
theorem k_up (h:Zgy w lo pc pt d ways S ls):
  Calls Tryz.prog 139 #[.pointer (some ⟨pc,0,none⟩)] w fun e w'=>(∃b,e=.returned (.bool b))∧Zmn lo pc pt d ways S ls.dropLast w w':=by
 obtain⟨rb,sp,h1,h2,rfl,rfl⟩:=h
 refine(s_up h1).mono fun e w' hp=>?_
 obtain⟨e1,e2⟩:=Zmn.of_step hp h2.upped
 rw[ZrV] at e2
 exact⟨⟨_,e1⟩,e2⟩
theorem Ztr (h:Zgy w lo pc pt d ways S ls)(ht:ZbV w pt d ways)(hw:ZcE d ways)(hd:d≤64)(hn:ways.length≤1000000)(hne:ways≠[])(he:Zti ls=false)(hl:ls.length<d):
  Calls Tryz.prog 137 #[.pointer (some ⟨pc,0,none⟩)] w fun e w'=>(∃b,e=.returned (.bool b))∧Zmn lo pc pt d ways S (ls++[(ZrT d ways (Zii ls),0)]) w w':=by
 obtain⟨rb,sp,h1,h2,rfl,rfl⟩:=h
 rw[Zjc hw h2] at he
 rw[ZpH] at hl
 have hm:ZcS d ways sp=true:=by
  unfold ZcS
  rw[he]
  have h0:ways.length≠0:=fun e=>hne (List.eq_nil_of_length_eq_zero e)
  simp
  exact⟨by omega,hne⟩
 refine(Zto h1 ht hw h2 hd hn).mono fun e w' hp=>?_
 obtain⟨e1,e2⟩:=Zmn.of_step hp (h2.opened hw)
 unfold Znn at e2
 rw[if_pos hm,Znq hw h2 hm,←Zmm hw _ sp rfl h2 he] at e2
 exact⟨⟨_,e1⟩,e2⟩
theorem ZrW {l:List ByteArray}{k:Nat}(hw:ZcE d ways)(h:Zgy w lo pc pt d ways S (ls++[(l,k)])):
  Calls Tryz.prog 154 #[.pointer (some ⟨pc,0,none⟩)] w fun e w'=>e=.returned (.bool (decide (k=l.length)))∧∃q,w'=w.drewN q:=by
 obtain⟨rb,sp,h1,h2,h3,rfl⟩:=h
 refine(Zc9 pc pt lo rb sp w h1).mono fun e w' ⟨r1,r2⟩=>⟨?_,r2⟩
 rw[r1,←Zjc hw h2,h3,ZgR]
theorem ZuI {l:List ByteArray}{k:Nat}{x:ByteArray}(hw:ZcE d ways)(h:Zgy w lo pc pt d ways S (ls++[(l,k)]))(ht:ZbV w pt d ways)(hx:l[k]? =some x):
  Calls Tryz.prog 160 #[.pointer (some ⟨pc,0,none⟩)] w fun e w'=>e=.returned (.string x)∧∃q,w'=w.drewN q:=by
 obtain⟨rb,pre,f,t,h1,h2,h3,h4,rfl,h5,_⟩:=h.shape hw
 have hkl:=(zgs hx).1
 have hft:=h5.2 hkl
 obtain⟨A,B,hs,F,e,hl,hge⟩:=(h2.lv hw).ok
 obtain⟨g,c,rfl,_⟩:=h1.last
 have hle:=F.le
 refine(Ztp pc pt lo g d ways pre f t A B w h1 ht F (by omega)).mono fun e' w' ⟨r1,r2⟩=>⟨?_,r2⟩
 have:=Zq7 F (by omega)
 rw[h4] at e
 cases e
 rw[hx] at this
 rw[r1]
 have this:x=_:=this
 rw[this]
theorem Zts {l:List ByteArray}{k:Nat}(hw:ZcE d ways)(h:Zgy w lo pc pt d ways S (ls++[(l,k)]))(hk:k<l.length)(hn:ways.length≤1000000):
  Calls Tryz.prog 162 #[.pointer (some ⟨pc,0,none⟩)] w fun e w'=>e=.returned (.bool (decide (k+1<l.length)))∧Zmn lo pc pt d ways S (ls++[(l,k+1)]) w w':=by
 obtain⟨rb,pre,f,t,h1,h2,h3,h4,rfl,h5,_⟩:=h.shape hw
 obtain⟨n1,n2⟩:=h2.next_lv hw (h5.2 hk)
 rw[h4,h3] at n1
 rw[h4] at n2
 refine(Ztn h1 hw h2 hn).mono fun e w' hp=>?_
 obtain⟨e1,e2⟩:=Zmn.of_step hp (h2.nexted hw)
 rw[n1] at e2
 rw[n2] at e1
 exact⟨e1,e2⟩
theorem Ztt {l:List ByteArray}{k:Nat}(x:ByteArray)(hw:ZcE d ways)(h:Zgy w lo pc pt d ways S (ls++[(l,k)]))(ht:ZbV w pt d ways)(hk:k<l.length)(hn:ways.length≤1000000):
  Calls Tryz.prog 161 #[.pointer (some ⟨pc,0,none⟩),.string x] w fun e w'=>∃j,k≤j∧j≤l.length∧(∀i y,k≤i→i<j→l[i]? =some y→ltB y x=true)∧(∀y,l[j]? =some y→ltB y x=false)∧e=.returned (.bool (decide (j<l.length)))∧Zmn lo pc pt d ways S (ls++[(l,j)]) w w':=by
 obtain⟨rb,pre,f,t,h1,h2,h3,h4,rfl,h5,_⟩:=h.shape hw
 obtain⟨j,j1,j2,j3,j4,n1,n2⟩:=h2.seek_lv hw (h5.2 hk) x
 rw[h4] at j1 j2 j3 j4 n1 n2
 rw[h3] at n1
 refine(Zq6 x h1 ht hw h2 hn).mono fun e w' hp=>?_
 obtain⟨e1,e2⟩:=Zmn.of_step hp (h2.seeked hw x)
 rw[n1] at e2
 rw[n2] at e1
 exact⟨j,j1,j2,j3,j4,e1,e2⟩
theorem Zmo {l:List ByteArray}(x:ByteArray)(hw:ZcE d ways)(h:Zgy w lo pc pt d ways S (ls++[(l,l.length)]))(ht:ZbV w pt d ways)(hn:ways.length≤1000000):
  Calls Tryz.prog 161 #[.pointer (some ⟨pc,0,none⟩),.string x] w fun e w'=>e=.returned (.bool false)∧Zmn lo pc pt d ways S (ls++[(l,l.length)]) w w':=by
 obtain⟨rb,pre,f,t,h1,h2,h3,h4,rfl,h5,_⟩:=h.shape hw
 obtain rfl:f=t:=Classical.not_not.1 fun hft=>absurd (h5.1 hft) (Nat.lt_irrefl _)
 refine(Zq6 x h1 ht hw h2 hn).mono fun e w' hp=>?_
 obtain⟨e1,e2⟩:=Zmn.of_step hp (h2.seeked hw x)
 rw[Zen,if_pos rfl,Zcq,h3,h4] at e2
 rw[ZfK,if_pos rfl] at e1
 exact⟨e1,e2⟩
end
structure JT where
 vars:List Nat
 rows:List (List ByteArray)
def gt (x:List ByteArray)(v:Nat):ByteArray:=x[v]?.getD ⟨#[]⟩
structure JT.Ok (n:Nat)(t:JT):Prop where
 up:t.vars.Pairwise (·<·)
 lt:∀v∈t.vars,v<n
 ways:ZcE t.vars.length t.rows
 ne:t.rows≠[]
def JT.pre (t:JT)(row:List ByteArray)(v:Nat):List ByteArray:=(t.vars.filter fun u=>decide (u<v)).map (gt row)
def JT.keys (t:JT)(row:List ByteArray)(v:Nat):List ByteArray:=ZrT t.vars.length t.rows (t.pre row v)
def inB (l:List ByteArray)(k:ByteArray):Bool:=l.any fun y=>decide (y=k)
theorem ZrX (l:List ByteArray)(k:ByteArray):inB l k=true↔k∈l:=by simp[inB]
def ZbQ (ts:List JT)(row:List ByteArray)(v:Nat):List ByteArray:=match ts.filter fun t=>decide (v∈t.vars) with
 |[]=>[]
 |t::l=>(t.keys row v).filter fun k=>l.all fun t'=>inB (t'.keys row v) k
def Zcv (ts:List JT)(p:Nat→List ByteArray→Bool):Nat→Nat→List ByteArray→List (List ByteArray)
 |0,v,row=>if p v row=true then [row] else []
 |k+1,v,row=>if p v row=true then (ZbQ ts row v).flatMap fun key=>Zcv ts p k (v+1) (row++[key]) else []
theorem Zkj {x:List ByteArray}{v u:Nat}(h:u<v):gt (x.take v) u=gt x u:=by
 unfold gt
 rw[List.getElem?_take,if_pos h]
theorem Zq8 {x y:List ByteArray}{u:Nat}(h:u<x.length):gt (x++y) u=gt x u:=by
 unfold gt
 rw[List.getElem?_append_left h]
theorem Zq9 (x:List ByteArray)(k:ByteArray):gt (x++[k]) x.length=k:=by simp[gt]
theorem ZgT {t:JT}{x y:List ByteArray}{v:Nat}(h:∀u,u<v→gt x u=gt y u):t.pre x v=t.pre y v:=by
 unfold JT.pre
 refine List.map_congr_left fun u hu=>h u ?_
 have:=(List.mem_filter.1 hu).2
 simpa using this
theorem Zkk {l:List Nat}(hp:l.Pairwise (·<·))(v:Nat):(l.filter fun u=>decide (u<v+1))=(l.filter fun u=>decide (u<v))++if v∈l then [v] else []:=by
 induction l with
 |nil=>rfl
 |cons a l ih=>
  have ih:=ih (List.pairwise_cons.1 hp).2
  have hlt:=(List.pairwise_cons.1 hp).1
  by_cases h1:a<v
  ·rw[List.filter_cons_of_pos (by simp;omega),List.filter_cons_of_pos (by simpa using h1),ih,List.cons_append]
   have:(v∈a::l)↔v∈l:=by
    rw[List.mem_cons]
    exact⟨fun h=>h.elim (fun e=>by omega) id,.inr⟩
   simp only[this]
  ·have h0:∀m,m≤v→(l.filter fun u=>decide (u<m))=[]:=fun m hm=>List.filter_eq_nil_iff.2 fun u hu=>by
    have:=hlt u hu
    simp
    omega
   rw[List.filter_cons_of_neg (a:=a) (p:=fun u=>decide (u<v)) (by simpa using h1),h0 v (Nat.le_refl _),List.nil_append]
   by_cases h2:a=v
   ·subst h2
    rw[if_pos (by simp),List.filter_cons_of_pos (by simp)]
    congr 1
    refine List.filter_eq_nil_iff.2 fun u hu=>?_
    have:=hlt u hu
    simp
    omega
   ·rw[List.filter_cons_of_neg (by simp;omega),if_neg ?_]
    ·refine List.filter_eq_nil_iff.2 fun u hu=>?_
     have:=hlt u hu
     simp
     omega
    ·intro h
     rcases List.mem_cons.1 h with h|h
     ·exact h2 h.symm
     ·have:=hlt v h
      omega
theorem Zmp {l:List Nat}(hp:l.Pairwise (·<·)){v:Nat}(hv:v∈l):(l.filter fun u=>decide (u<v)).length<l.length:=by
 induction l with
 |nil=>cases hv
 |cons a l ih=>
  by_cases h1:a<v
  ·rw[List.filter_cons_of_pos (by simpa using h1)]
   have hv:v∈l:=by
    rcases List.mem_cons.1 hv with h|h
    ·omega
    ·exact h
   have:=ih (List.pairwise_cons.1 hp).2 hv
   rw[List.length_cons,List.length_cons]
   omega
  ·rw[List.filter_cons_of_neg (by simpa using h1)]
   have:=List.length_filter_le (fun u=>decide (u<v)) l
   simp
   omega
theorem JT.Ok.pre_succ {n:Nat}{t:JT}(h:t.Ok n)(row:List ByteArray)(v:Nat):t.pre row (v+1)=t.pre row v++if v∈t.vars then [gt row v] else []:=by
 unfold JT.pre
 rw[Zkk h.up,List.map_append]
 split <;> rfl
theorem JT.Ok.pre_len {n:Nat}{t:JT}(h:t.Ok n)(row:List ByteArray){v:Nat}(hv:v∈t.vars):(t.pre row v).length<t.vars.length:=by
 unfold JT.pre
 rw[List.length_map]
 exact Zmp h.up hv
theorem JT.Ok.pre_all {n:Nat}{t:JT}(h:t.Ok n)(row:List ByteArray):t.pre row n=t.vars.map (gt row):=by
 unfold JT.pre
 rw[List.filter_eq_self.2 fun u hu=>by simpa using h.lt u hu]
def JT.has (t:JT)(b:List ByteArray):Prop:=∃x∈t.rows,x.take b.length=b
theorem JT.Ok.has_all {n:Nat}{t:JT}(h:t.Ok n)(row:List ByteArray):t.has (t.pre row n)↔t.vars.map (gt row)∈t.rows:=by
 rw[h.pre_all]
 constructor
 ·rintro⟨x,hx,e⟩
  have:=h.ways.len x hx
  rw[List.length_map,←this,List.take_length] at e
  rwa [←e]
 ·intro hx
  exact⟨_,hx,by rw[List.take_length]⟩
theorem JT.Ok.keys_mem {n:Nat}{t:JT}(h:t.Ok n)(row:List ByteArray){v:Nat}(hv:v∈t.vars)(k:ByteArray):k∈t.keys row v↔t.has (t.pre row v++[k]):=by
 have hl:=h.pre_len row hv
 unfold JT.keys ZrT
 rw[if_neg (by omega),ZpI _ _ _ (fun x hx=>by rw[h.ways.len x hx];exact hl)]
 unfold JT.has
 rw[List.length_append,List.length_singleton]
theorem JT.Ok.keys_rising {n:Nat}{t:JT}(h:t.Ok n)(row:List ByteArray){v:Nat}(hv:v∈t.vars):ZgS (t.keys row v):=by
 have hl:=h.pre_len row hv
 unfold JT.keys ZrT
 rw[if_neg (by omega)]
 exact Zki h.ways hl
theorem ZfN {ts:List JT}(row:List ByteArray){v:Nat}(hv:∃t∈ts,v∈t.vars)(k:ByteArray):k∈ZbQ ts row v↔∀t∈ts,v∈t.vars→k∈t.keys row v:=by
 unfold ZbQ
 have hm:∀t,t∈(ts.filter fun t=>decide (v∈t.vars))↔t∈ts∧v∈t.vars:=fun t=>by rw[List.mem_filter];simp
 cases hf:ts.filter fun t=>decide (v∈t.vars) with
 |nil=>
  exfalso
  obtain⟨t,h1,h2⟩:=hv
  have:=(hm t).2 ⟨h1,h2⟩
  rw[hf] at this
  cases this
 |cons t l=>
  rw[hf] at hm
  simp only[List.mem_filter,List.all_eq_true,ZrX]
  constructor
  ·rintro⟨h1,h2⟩ t' h3 h4
   rcases List.mem_cons.1 ((hm t').2 ⟨h3,h4⟩) with rfl|h5
   ·exact h1
   ·exact h2 t' h5
  ·intro h
   exact⟨h t ((hm t).1 (by simp)).1 ((hm t).1 (by simp)).2,fun t' h5=>h t' ((hm t').1 (by simp[h5])).1 ((hm t').1 (by simp[h5])).2⟩
theorem Ze6 {n:Nat}{ts:List JT}(hts:∀t∈ts,t.Ok n)(row:List ByteArray)(v:Nat):ZgS (ZbQ ts row v):=by
 unfold ZbQ
 cases hf:ts.filter fun t=>decide (v∈t.vars) with
 |nil=>exact List.Pairwise.nil
 |cons t l=>
  have hm:t∈ts.filter fun t=>decide (v∈t.vars):=by rw[hf];simp
  rw[List.mem_filter] at hm
  exact((hts t hm.1).keys_rising row (by simpa using hm.2)).filter _
def Znr (ts:List JT)(row:List ByteArray)(v:Nat):Prop:=∀t∈ts,t.has (t.pre row v)
theorem Znr.zero {n:Nat}{ts:List JT}(hts:∀t∈ts,t.Ok n)(row:List ByteArray):Znr ts row 0:=by
 intro t ht
 obtain⟨x,hx⟩:∃x,x∈t.rows:=by
  have:=(hts t ht).ne
  cases h:t.rows with
  |nil=>exact absurd h this
  |cons x l=>exact⟨x,by simp⟩
 refine⟨x,hx,?_⟩
 have:t.pre row 0=[]:=by
  unfold JT.pre
  rw[List.filter_eq_nil_iff.2 (fun u _=>by simp)]
  rfl
 rw[this]
 rfl
theorem Znr.step {n:Nat}{ts:List JT}(hts:∀t∈ts,t.Ok n){row:List ByteArray}{v:Nat}(hlen:row.length=v)(h:Znr ts row v){k:ByteArray}(hk:∀t∈ts,v∈t.vars→k∈t.keys row v):Znr ts (row++[k]) (v+1):=by
 intro t ht
 rw[(hts t ht).pre_succ]
 have e:t.pre (row++[k]) v=t.pre row v:=ZgT fun u hu=>Zq8 (by omega)
 have e2:gt (row++[k]) v=k:=by rw[←hlen,Zq9]
 rw[e,e2]
 by_cases hv:v∈t.vars
 ·rw[if_pos hv]
  exact((hts t ht).keys_mem row hv k).1 (hk t ht hv)
 ·rw[if_neg hv,List.append_nil]
  exact h t ht
theorem Zjd {n:Nat}{ts:List JT}{p:Nat→List ByteArray→Bool}(hts:∀t∈ts,t.Ok n)(hall:∀v,v<n→∃t∈ts,v∈t.vars)(x:List ByteArray):∀(k v:Nat) (row:List ByteArray),v+k=n→row.length=v→Znr ts row v→
  (x∈Zcv ts p k v row↔x.length=n∧x.take v=row∧(∀u,v≤u→u≤n→p u (x.take u)=true)∧∀t∈ts,t.vars.map (gt x)∈t.rows):=by
 intro k
 induction k with
 |zero=>
  intro v row hv hlen hlive
  have hlive2:∀t∈ts,t.vars.map (gt row)∈t.rows:=fun t ht=>by
   have:=hlive t ht
   rw[show v=n by omega] at this
   exact((hts t ht).has_all row).1 this
  rw[Zcv]
  have hvn:v=n:=by omega
  subst hvn
  constructor
  ·intro h
   split at h
   ·rename_i hp
    rw[List.mem_singleton] at h
    subst h
    have e:x.take v=x:=by rw[←hlen,List.take_length]
    exact⟨hlen,e,fun u h1 h2=>by rw[show u=v by omega,e];exact hp,hlive2⟩
   ·cases h
  ·rintro⟨h1,h2,h3,h4⟩
   have e:x.take v=x:=by rw[←h1,List.take_length]
   have hp:=h3 v (Nat.le_refl _) (Nat.le_refl _)
   rw[h2] at hp
   rw[if_pos hp,List.mem_singleton,←h2,e]
 |succ k ih=>
  intro v row hv hlen hlive
  have hvn:v<n:=by omega
  rw[Zcv]
  have hcm:=ZfN row (hall v hvn)
  constructor
  ·intro h
   split at h
   ·rename_i hp
    obtain⟨key,hk,hx⟩:=List.mem_flatMap.1 h
    have hk:=(hcm key).1 hk
    obtain⟨h1,h2,h3,h4⟩:=(ih (v+1) (row++[key]) (by omega) (by simp[hlen]) (hlive.step hts hlen hk)).1 hx
    have e:x.take v=row:=by
     have:=congrArg (List.take v) h2
     rw[List.take_take,Nat.min_eq_left (by omega),←hlen,List.take_left] at this
     rw[←hlen]
     exact this
    refine⟨h1,e,fun u hu1 hu2=>?_,h4⟩
    rcases Nat.eq_or_lt_of_le hu1 with hu|hu
    ·rw[←hu,e]
     exact hp
    ·exact h3 u hu hu2
   ·cases h
  ·rintro⟨h1,h2,h3,h4⟩
   have hp:=h3 v (Nat.le_refl _) (by omega)
   rw[h2] at hp
   rw[if_pos hp]
   have hge:∀u,u<v→gt row u=gt x u:=fun u hu=>by rw[←h2,Zkj hu]
   have hk:∀t∈ts,v∈t.vars→gt x v∈t.keys row v:=fun t ht hvt=>by
    rw[(hts t ht).keys_mem row hvt]
    refine⟨_,h4 t ht,?_⟩
    have e1:t.pre row v++[gt x v]=t.pre x (v+1):=by
     rw[(hts t ht).pre_succ,if_pos hvt,ZgT hge]
    rw[e1]
    have e2:t.vars.map (gt x)=t.pre x n:=((hts t ht).pre_all x).symm
    rw[e2]
    obtain⟨tl,htl⟩:∃tl,t.pre x n=t.pre x (v+1)++tl:=by
     have:∀m,v+1≤m→∃tl,t.pre x m=t.pre x (v+1)++tl:=by
      intro m hm
      induction m with
      |zero=>omega
      |succ m ihm=>
       rcases Nat.eq_or_lt_of_le hm with e|e
       ·exact⟨[],by rw[←e,List.append_nil]⟩
       ·obtain⟨tl,htl⟩:=ihm (by omega)
        exact⟨_,by rw[(hts t ht).pre_succ,htl,List.append_assoc]⟩
     exact this n (by omega)
    rw[htl,List.take_left]
   refine List.mem_flatMap.2 ⟨gt x v,(hcm _).2 hk,(ih (v+1) (row++[gt x v]) (by omega) (by simp[hlen]) (hlive.step hts hlen hk)).2 ⟨h1,?_,fun u hu1 hu2=>h3 u (by omega) hu2,h4⟩⟩
   rw[List.take_add_one,h2,zge (by omega)]
   unfold gt
   rw[zge (by omega)]
   rfl
structure Scn where
 w2:World
 T:Nat→Prop
 pw:Nat
 pm:Nat
 gr:Nat
 cr:Nat
 n:Nat
 yv:Value
 ts:List JT
 pcs:List Nat
 pts:List Nat
 p:Nat→List ByteArray→Bool
 lo:Nat
def Scn.far (sc:Scn)(b:Nat):Prop:=sc.T b∨sc.w2.heap.size≤b
def ZbR (sc:Scn)(J:(Nat→Prop)→World→Prop):Prop:=∀(C T:Nat→Prop) (W W':World),J C W→Zah T W W'→(∀b,T b→¬C b∧sc.far b)→J C W'
def Zmq (sc:Scn)(W:World)(x:List ByteArray):Prop:=∀j y,x[j]? =some y→W.cell? ⟨sc.gr,j,none⟩=some (.string y)∧W.frozen? ⟨sc.gr,j,none⟩=false
structure WSt (sc:Scn)(J:(Nat→Prop)→World→Prop)(W:World)(row:List ByteArray)(L:Nat→List RLv)(F:Nat→Prop):Prop where
 env:Zah sc.T sc.w2 W
 far:∀b,F b→sc.far b
 low:∀b,F b→b<W.heap.size
 ex:∃(x:List ByteArray) (S:Nat→Nat→Prop) (C:Nat→Prop),(x.length=sc.n∧x.take row.length=row∧Zmq sc W x)∧
  (∀(i:Nat) (t:JT) (pc pt:Nat),sc.ts[i]? =some t→sc.pcs[i]? =some pc→sc.pts[i]? =some pt→Zgy W sc.lo pc pt t.vars.length t.rows (S i) (L i))∧
  (∀(i j b:Nat),i≠j→S i b→¬S j b)∧(∀(i b:Nat),S i b→b≠sc.gr∧¬C b)∧¬C sc.gr∧J C W∧(∀b,F b↔b=sc.gr∨C b∨∃i,S i b)
def Mv (sc:Scn)(J:(Nat→Prop)→World→Prop)(W:World)(row:List ByteArray)(L:Nat→List RLv)(F:Nat→Prop)(W':World):Prop:=∃F',WSt sc J W' row L F'∧Zah F W W'∧∀b,F' b→F b∨W.heap.size≤b
def Zmr (L:Nat→List RLv)(i:Nat)(ls:List RLv):Nat→List RLv:=fun k=>if k=i then ls else L k
theorem Zd3 (L:Nat→List RLv)(i:Nat)(ls:List RLv):Zmr L i ls i=ls:=by simp[Zmr]
theorem Zdm (L:Nat→List RLv){i k:Nat}(ls:List RLv)(h:k≠i):Zmr L i ls k=L k:=by simp[Zmr,h]
theorem ZrY (L:Nat→List RLv)(i:Nat):Zmr L i (L i)=L:=by
 funext k
 by_cases h:k=i
 ·rw[h,Zd3]
 ·rw[Zdm L _ h]
theorem ZbO {T S:Nat→Prop}{w W W':World}(h:Zah T w W)(k:Zah S W W')(hs:∀b,S b→T b∨w.heap.size≤b):Zah T w W':=
 ⟨k.os.trans h.os,k.tape.trans h.tape,k.output.trans h.output,Nat.le_trans h.size k.size,fun b hb hn=>(k.block b (Nat.lt_of_lt_of_le hb h.size) (fun hS=>by
  rcases hs b hS with h1|h1
  ·exact hn h1
  ·omega)).trans (h.block b hb hn)⟩
theorem Zah.frozen {S:Nat→Prop}{w x:World}(h:Zah S w x){b o:Nat}{v:Value}{q:Bool}(hb:¬S b)(hc:w.cell? ⟨b,o,none⟩=some v)(hf:w.frozen? ⟨b,o,none⟩=q):x.frozen? ⟨b,o,none⟩=q:=by
 rw[←hf]
 have:=h.block b (World.block_lt_of_cell? w ⟨b,o,none⟩ hc) hb
 simp[World.frozen?,this]
theorem Zmq.but {sc:Scn}{W W':World}{x:List ByteArray}{S:Nat→Prop}(h:Zmq sc W x)(e:Zah S W W')(hs:¬S sc.gr):Zmq sc W' x:=fun j y hy=>⟨e.cell hs (h j y hy).1,e.frozen hs (h j y hy).1 (h j y hy).2⟩
section
variable {sc:Scn} {J:(Nat→Prop)→World→Prop} {W:World} {row:List ByteArray} {L:Nat→List RLv} {F:Nat→Prop}
theorem WSt.ext (hJ:ZbR sc J)(h:WSt sc J W row L F){W':World}(e:Ext W W'):WSt sc J W' row L F:=by
 obtain⟨x,S,C,h1,h2,h3,h4,h5,h6,h7⟩:=h.ex
 have eb:Zah (fun _=>False) W W':=⟨e.os,e.tape,e.output,e.size,fun b hb _=>e.block b hb⟩
 exact⟨h.env.ext e,h.far,fun b hb=>Nat.lt_of_lt_of_le (h.low b hb) e.size,x,S,C,⟨h1.1,h1.2.1,h1.2.2.but eb id⟩,fun i t pc pt a1 a2 a3=>(h2 i t pc pt a1 a2 a3).ext e,h3,h4,h5,hJ _ _ _ _ h6 eb (fun _ hb=>hb.elim),h7⟩
theorem WSt.mv (h:WSt sc J W row L F):Mv sc J W row L F W:=⟨F,h,Zah.refl _ _,fun _ h=>.inl h⟩
theorem WSt.mv_ext (hJ:ZbR sc J)(h:WSt sc J W row L F){W':World}(e:Ext W W'):Mv sc J W row L F W':=⟨F,h.ext hJ e,(Zah.refl _ _).ext e,fun _ h=>.inl h⟩
theorem WSt.cur (hJ:ZbR sc J)(h:WSt sc J W row L F){i:Nat}{t:JT}{pc pt:Nat}(ht:sc.ts[i]? =some t)(hc:sc.pcs[i]? =some pc)(hp:sc.pts[i]? =some pt):
  ∃S,Zgy W sc.lo pc pt t.vars.length t.rows S (L i)∧∀W' ls,Zmn sc.lo pc pt t.vars.length t.rows S ls W W'→Mv sc J W row (Zmr L i ls) F W':=by
 obtain⟨x,S,C,h1,h2,h3,h4,h5,h6,h7⟩:=h.ex
 refine⟨S i,h2 i t pc pt ht hc hp,fun W' ls ⟨Si,k1,k2,k3⟩=>?_⟩
 have hSF:∀b,S i b→F b:=fun b hb=>(h7 b).2 (.inr (.inr ⟨i,hb⟩))
 have hlow:∀k b,S k b→b<W.heap.size:=fun k b hb=>h.low b ((h7 b).2 (.inr (.inr ⟨k,hb⟩)))
 have hgr:sc.gr<W.heap.size:=h.low _ ((h7 _).2 (.inl rfl))
 have hCl:∀b,C b→b<W.heap.size:=fun b hb=>h.low b ((h7 b).2 (.inr (.inl hb)))
 have hfar:∀b,S i b→sc.far b:=fun b hb=>h.far b (hSF b hb)
 let S':Nat→Nat→Prop:=fun k=>if k=i then Si else S k
 have hSi:S' i=Si:=if_pos rfl
 have hSk:∀k,k≠i→S' k=S k:=fun k hk=>if_neg hk
 have hnotSi:∀k b,k≠i→S k b→¬Si b:=fun k b hk hb hb2=>by
  rcases k3 b hb2 with h8|h8
  ·exact h3 k i b hk hb h8
  ·have:=hlow k b hb
   omega
 have hnewS:∀b,Si b→b<W'.heap.size:=fun b hb=>by
  obtain⟨rb,sp,c1,c2,c3,rfl⟩:=k1
  obtain⟨⟨a,c,t1,t2,t3⟩,t4⟩:=c1
  rcases hb with rfl|hb
  ·exact(zag t1).1
  ·rw[←t3] at hb
   exact(t2.lt b hb).2
 refine⟨fun b=>b=sc.gr∨C b∨∃k,S' k b,⟨ZbO h.env k2 hfar,fun b hb=>?_,fun b hb=>?_,x,S',C,⟨h1.1,h1.2.1,h1.2.2.but k2 (fun hb=>(h4 i _ hb).1 rfl)⟩,fun k t' pc' pt' a1 a2 a3=>?_,fun k j b hkj hb=>?_,fun k b hb=>?_,h5,hJ _ _ _ _ h6 k2 (fun b hb=>⟨(h4 i b hb).2,hfar b hb⟩),fun b=>Iff.rfl⟩,k2.mono fun b _ hb=>hSF b hb,fun b hb=>?_⟩
 ·rcases hb with hb|hb|⟨k,hb⟩
  ·exact h.far b ((h7 b).2 (.inl hb))
  ·exact h.far b ((h7 b).2 (.inr (.inl hb)))
  ·by_cases hk:k=i
   ·subst hk
    rw[hSi] at hb
    rcases k3 b hb with h8|h8
    ·exact hfar b h8
    ·exact .inr (Nat.le_trans h.env.size h8)
   ·rw[hSk k hk] at hb
    exact h.far b ((h7 b).2 (.inr (.inr ⟨k,hb⟩)))
 ·rcases hb with rfl|hb|⟨k,hb⟩
  ·exact Nat.lt_of_lt_of_le hgr k2.size
  ·exact Nat.lt_of_lt_of_le (hCl b hb) k2.size
  ·by_cases hk:k=i
   ·subst hk
    rw[hSi] at hb
    exact hnewS b hb
   ·rw[hSk k hk] at hb
    exact Nat.lt_of_lt_of_le (hlow k b hb) k2.size
 ·by_cases hk:k=i
  ·subst hk
   rw[ht] at a1
   rw[hc] at a2
   rw[hp] at a3
   cases a1
   cases a2
   cases a3
   rw[hSi,Zd3]
   exact k1
  ·rw[hSk k hk,Zdm L _ hk]
   exact(h2 k t' pc' pt' a1 a2 a3).buts k2 (fun b hb hb2=>h3 k i b hk hb hb2)
 ·by_cases hk:k=i
  ·subst hk
   rw[hSi] at hb
   rw[hSk j (Ne.symm hkj)]
   exact fun hb2=>hnotSi j b (Ne.symm hkj) hb2 hb
  ·rw[hSk k hk] at hb
   by_cases hj:j=i
   ·subst hj
    rw[hSi]
    exact hnotSi k b hk hb
   ·rw[hSk j hj]
    exact h3 k j b hkj hb
 ·by_cases hk:k=i
  ·subst hk
   rw[hSi] at hb
   rcases k3 b hb with h8|h8
   ·exact h4 k b h8
   ·refine⟨fun e=>by omega,fun hC=>?_⟩
    have:=hCl b hC
    omega
  ·rw[hSk k hk] at hb
   exact h4 k b hb
 ·rcases hb with hb|hb|⟨k,hb⟩
  ·exact .inl ((h7 b).2 (.inl hb))
  ·exact .inl ((h7 b).2 (.inr (.inl hb)))
  ·by_cases hk:k=i
   ·subst hk
    rw[hSi] at hb
    rcases k3 b hb with h8|h8
    ·exact .inl (hSF b h8)
    ·exact .inr h8
   ·rw[hSk k hk] at hb
    exact .inl ((h7 b).2 (.inr (.inr ⟨k,hb⟩)))
theorem WSt.cut {r:List ByteArray}(h:WSt sc J W (row++r) L F):WSt sc J W row L F:=by
 obtain⟨x,S,C,⟨h1,h2,h3⟩,h4⟩:=h.ex
 refine⟨h.env,h.far,h.low,x,S,C,⟨h1,?_,h3⟩,h4⟩
 have:=congrArg (List.take row.length) h2
 rwa [List.take_take,List.length_append,Nat.min_eq_left (by omega),List.take_left] at this
theorem Mv.cut {r:List ByteArray}{W':World}(h:Mv sc J W (row++r) L F W'):Mv sc J W row L F W':=by
 obtain⟨F',h1,h2,h3⟩:=h
 exact⟨F',h1.cut,h2,h3⟩
theorem WSt.put (hJ:ZbR sc J)(h:WSt sc J W row L F)(hv:row.length<sc.n)(k:ByteArray):WSt sc J (W.setCell ⟨sc.gr,row.length,none⟩ (.string k)) (row++[k]) L F∧Zah F W (W.setCell ⟨sc.gr,row.length,none⟩ (.string k))∧∃y,W.cell? ⟨sc.gr,row.length,none⟩=some (.string y)∧W.frozen? ⟨sc.gr,row.length,none⟩=false:=by
 obtain⟨x,S,C,⟨x1,x2,x3⟩,h2,h3,h4,h5,h6,h7⟩:=h.ex
 have hgF:F sc.gr:=(h7 _).2 (.inl rfl)
 have kb:Zah (fun b=>b=sc.gr) W (W.setCell ⟨sc.gr,row.length,none⟩ (.string k)):=Zah.set (S:=fun b=>b=sc.gr) (Zah.refl _ W) (.inl rfl) _ _
 obtain⟨y,hy⟩:∃y,x[row.length]? =some y:=⟨_,zge (by omega)⟩
 refine⟨⟨ZbO h.env kb (fun b hb=>by subst hb;exact h.far _ hgF),h.far,fun b hb=>by simpa using h.low b hb,x.set row.length k,S,C,⟨by simpa using x1,?_,fun j z hz=>?_⟩,fun i t pc pt a1 a2 a3=>(h2 i t pc pt a1 a2 a3).buts kb (fun b hb e=>(h4 i b hb).1 e),h3,h4,h5,hJ _ _ _ _ h6 kb (fun b hb=>by subst hb;exact⟨h5,h.far _ hgF⟩),h7⟩,kb.mono fun b _ hb=>by subst hb;exact hgF,y,x3 _ _ hy⟩
 ·rw[List.length_append,List.length_singleton,List.take_add_one,List.take_set_of_le (Nat.le_refl _),x2,List.getElem?_set_self (by omega)]
  rfl
 ·rw[List.getElem?_set] at hz
  have hc:=x3 _ _ hy
  by_cases hj:row.length=j
  ·subst hj
   rw[if_pos rfl,if_pos (by omega)] at hz
   cases hz
   refine⟨?_,?_⟩
   ·exact World.cell?_setCell_same _ _ _ hc.1
   ·rw[World.frozen?_setCell]
    exact hc.2
  ·rw[if_neg hj] at hz
   refine⟨?_,?_⟩
   ·rw[World.cell?_setCell_other _ _ _ _ (by intro e;exact hj (by injection e))]
    exact(x3 j z hz).1
   ·rw[World.frozen?_setCell]
    exact(x3 j z hz).2
end
