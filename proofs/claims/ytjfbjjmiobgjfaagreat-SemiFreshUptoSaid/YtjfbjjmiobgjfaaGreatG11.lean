/- How a cursor meets all ways, a plain law: steps are bounded. -/
import Derived.Test.YtjfbjjmiobgjfaaGreatG10
set_option maxRecDepth 100000
set_option maxHeartbeats 8000000
namespace Go.Proofs.YtjfbjjmiobgjfaaGreat
theorem ZbJ.keys {d:Nat}{ways:List (List ByteArray)}(hw:ZcE d ways){pre:List (Nat×Nat)}{f t A B:Nat}(F:ZbJ d ways pre f t A B)(hft:f<t):(Za9 ways (st ways pre.length f)).take (pre.length+1)=ZcT ways (pre++[(f,t)])∧st ways pre.length f<ways.length:=by
 have hb:=ZaY ways pre.length F.seg.top
 have hj:f<wid ways pre.length ways.length:=by have:=F.top;omega
 have hs:=Zdl ways pre.length f hj
 obtain⟨p1,p2,_⟩:=F.seg.place F.ge (by have:=F.top;omega)
 exact⟨by rw[Zdf hw hs.1 F.dep,F.seg.same _ p1 p2,F.pre,ZeZ],hs.1⟩
theorem ZbJ.find {d:Nat}{ways:List (List ByteArray)}(hw:ZcE d ways){pre:List (Nat×Nat)}{f t A B:Nat}(F:ZbJ d ways pre f t A B)(hft:f<t):Zgr ways (ZcT ways (pre++[(f,t)])) (ZcT ways (pre++[(f,t)])).length f (st ways pre.length f) (st ways pre.length (f+1)):=by
 have hb:=ZaY ways pre.length F.seg.top
 have hj:f<wid ways pre.length ways.length:=by have:=F.top;omega
 obtain⟨k1,k2⟩:=F.keys hw hft
 have hl:(ZcT ways (pre++[(f,t)])).length=pre.length+1:=by rw[Zif];simp
 have hs:=Zdl ways pre.length f hj
 refine⟨?_,Zpm ways pre.length (Nat.lt_succ_self f) hj,?_,fun m hm he=>?_,fun h=>by omega,fun _=>?_⟩
 ·rw[hl]
  exact Zj6 ways pre.length f hj
 ·rw[List.take_length,hl]
  exact k1
 ·rw[List.take_length,hl,←k1] at he
  have e:=(hw.nd_iff (i:=pre.length) hm k2).1 he
  rw[Zth ways pre.length f hj] at e
  obtain⟨_,_,b3,b4⟩:=Zk7 ways pre.length m hm
  rw[e] at b3 b4
  exact⟨b3,b4⟩
 ·rw[hl,Nat.add_sub_cancel]
  exact⟨hj,rfl,rfl⟩
theorem Zkh {ways:List (List ByteArray)}{k A B:Nat}(h:Seg ways k A B):(ZbE ways k A B).length=wid ways k B-wid ways k A:=by
 have h1:=ZaY ways k h.top
 have h2:=ZaY ways k h.le
 unfold ZbE
 rw[List.length_take,List.length_drop,ZcM]
 omega
theorem ZhL {ways:List (List ByteArray)}{k A B i:Nat}(h:Seg ways k A B)(hi:i<wid ways k B-wid ways k A):(ZbE ways k A B)[i]? =some (ZbP ways k (st ways k (wid ways k A+i))):=by
 have h1:=ZaY ways k h.top
 unfold ZbE
 rw[Zhv _ hi,ZfG ways k _ (by omega)]
def ZfL (b:List ByteArray)(out:List ByteArray)(x:List ByteArray):List ByteArray:=if x.take b.length=b then (if out.getLast? =some (x[b.length]?.getD ⟨#[]⟩) then out else out++[x[b.length]?.getD ⟨#[]⟩]) else out
def Zih (ways:List (List ByteArray))(b:List ByteArray):List ByteArray:=ways.foldl (ZfL b) []
theorem Ze5 (ways:List (List ByteArray))(x b:List ByteArray):Zih (ways++[x]) b=ZfL b (Zih ways b) x:=by simp[Zih]
theorem ZfM {ways:List (List ByteArray)}{m:Nat}(h:m<ways.length):ways.take (m+1)=ways.take m++[Za9 ways m]:=by
 rw[List.take_add_one]
 congr 1
 unfold Za9
 rw[zge h]
 rfl
theorem Zi9 {ways:List (List ByteArray)}{b:List ByteArray}(h:∀m,m<ways.length→(Za9 ways m).take b.length≠b):∀m,m≤ways.length→Zih (ways.take m) b=[]
 |0,_=>rfl
 |m+1,hm=>by
  rw[ZfM (by omega),Ze5,Zi9 h m (by omega)]
  unfold ZfL
  rw[if_neg (h m (by omega))]
theorem Zd1 (ways:List (List ByteArray))(k A:Nat):ZbE ways k A A=[]:=by simp[ZbE]
theorem Zd2 {ways:List (List ByteArray)}{k A m:Nat}(hA:A≤m)(hm:m<ways.length):ZbE ways k A (m+1)=ZbE ways k A m++if Zbx ways k m=true then [ZbP ways k m] else []:=by
 unfold ZbE
 have h1:=ZaY ways k hA
 rw[Zcd]
 by_cases hf:Zbx ways k m=true
 ·rw[if_pos hf,if_pos hf,show wid ways k m+1-wid ways k A=(wid ways k m-wid ways k A)+1 by omega,List.take_add_one]
  congr 1
  rw[List.getElem?_drop,show wid ways k A+(wid ways k m-wid ways k A)=wid ways k m by omega]
  unfold Zcc
  rw[List.getElem?_map,Zhr ways k hm hf]
  rfl
 ·rw[if_neg hf,if_neg hf,Nat.add_zero,List.append_nil]
theorem Zja {d:Nat}{ways:List (List ByteArray)}(hw:ZcE d ways){k A m:Nat}(hk:k<d)(hfA:Zbx ways k A=true)(hA:A≤m)(hm:m<ways.length):(ZbE ways k A (m+1)).getLast? =some (ZbP ways k m):=by
 induction m with
 |zero=>
  obtain rfl:A=0:=by omega
  rw[Zd2 (Nat.le_refl _) hm,Zd1,if_pos hfA]
  rfl
 |succ m ih=>
  rw[Zd2 hA hm]
  by_cases hf:Zbx ways k (m+1)=true
  ·rw[if_pos hf,List.getLast?_concat]
  ·have hne:A≠m+1:=fun e=>hf (e ▸ hfA)
   rw[if_neg hf,List.append_nil,ih (by omega) (by omega)]
   unfold Zbx at hf
   have e:(Za9 ways m).take (k+1)=(Za9 ways (m+1)).take (k+1):=by simpa using hf
   rw[Zdf hw (by omega) hk,Zdf hw hm hk] at e
   rw[(by simpa using (List.append_inj' e rfl).2:ZbP ways k m=ZbP ways k (m+1))]
theorem Zjb {d:Nat}{ways:List (List ByteArray)}(hw:ZcE d ways){b:List ByteArray}{p A B:Nat}(hb:b.length<d)(h:Zgr ways b b.length p A B):∀m,m≤ways.length→Zih (ways.take m) b=ZbE ways b.length A (max A (min m B))
 |0,_=>by
  have:max A (min 0 B)=A:=by omega
  rw[this,Zd1]
  rfl
 |m+1,hm=>by
  have ih:=Zjb hw hb h m (by omega)
  have hpre:∀q,q<ways.length→((Za9 ways q).take b.length=b↔A≤q∧q<B):=fun q hq=>by
   constructor
   ·intro e
    exact h.all q hq (by rw[List.take_length];exact e)
   ·intro ⟨e1,e2⟩
    have:=h.pre_at e1 e2
    rwa [List.take_length] at this
  have hfA:Zbx ways b.length A=true:=by
   rcases Nat.eq_zero_or_pos b.length with h0|h0
   ·obtain⟨_,e,_⟩:=h.zero h0
    rw[e]
    exact Zge ways _
   ·obtain⟨e1,e2,_⟩:=h.pos h0
    have:=(Zdl ways (b.length-1) p e1).2.1
    rw[←e2] at this
    exact Zma ways this (by omega)
  rw[ZfM (by omega),Ze5,ih]
  unfold ZfL
  by_cases hin:A≤m∧m<B
  ·rw[if_pos ((hpre m (by omega)).2 hin)]
   have e1:max A (min m B)=m:=by omega
   have e2:max A (min (m+1) B)=m+1:=by omega
   rw[e1,e2,Zd2 hin.1 (by omega)]
   have e3:(Za9 ways m)[b.length]?.getD ⟨#[]⟩=ZbP ways b.length m:=rfl
   rw[e3]
   rcases Nat.eq_or_lt_of_le hin.1 with e|e
   ·subst e
    rw[Zd1,if_pos hfA,if_neg (by simp)]
   ·obtain⟨q,rfl⟩:∃q,m=q+1:=⟨m-1,by omega⟩
    rw[Zja hw hb hfA (by omega) (by omega)]
    have t1:=(hpre q (by omega)).2 ⟨by omega,by omega⟩
    have t2:=(hpre (q+1) (by omega)).2 hin
    have hfi:Zbx ways b.length (q+1)=true↔ZbP ways b.length q≠ZbP ways b.length (q+1):=by
     unfold Zbx
     rw[Nat.add_sub_cancel,Zdf hw (by omega) hb,Zdf hw (by omega) hb,t1,t2]
     simp
    by_cases hk:ZbP ways b.length q=ZbP ways b.length (q+1)
    ·rw[if_pos (by rw[hk]),if_neg (fun hf=>hfi.1 hf hk),List.append_nil]
    ·rw[if_neg (by simpa using hk),if_pos (hfi.2 hk)]
  ·rw[if_neg (fun e=>hin ((hpre m (by omega)).1 e))]
   have:max A (min (m+1) B)=max A (min m B):=by omega
   rw[this]
theorem Zq4.eq {d:Nat}{ways:List (List ByteArray)}(hw:ZcE d ways){b xs:List ByteArray}(h:Zq4 d ways b xs):xs=if d≤b.length then [] else Zih ways b:=by
 rcases h with⟨p,A,B,h1,h2,rfl⟩|⟨h1,rfl⟩
 ·rw[if_neg (by omega)]
  have h3:=Zjb hw h1 h2 ways.length (Nat.le_refl _)
  rw[List.take_length] at h3
  have:=h2.lt
  have:=h2.seg.top
  rw[h3,show max A (min ways.length B)=B by omega]
 ·rcases h1 with h1|h1
  ·rw[if_pos h1]
  ·have h3:=Zi9 h1 ways.length (Nat.le_refl _)
   rw[List.take_length] at h3
   rw[h3]
   simp
def ZrT (d:Nat)(ways:List (List ByteArray))(b:List ByteArray):List ByteArray:=if d≤b.length then [] else Zih ways b
abbrev RLv:Type:=List ByteArray×Nat
def Zti (ls:List RLv):Bool:=match ls.getLast? with
 |some p=>decide (p.2=p.1.length)
 |none=>false
theorem ZgR (pre:List RLv)(l:List ByteArray)(k:Nat):Zti (pre++[(l,k)])=decide (k=l.length):=by simp[Zti]
def Zii (ls:List RLv):List ByteArray:=ls.map fun p=>p.1[p.2]?.getD ⟨#[]⟩
def bnd (ways:List (List ByteArray))(pre:List (Nat×Nat)):Nat×Nat:=match pre.getLast? with
 |some s=>(st ways (pre.length-1) s.1,st ways (pre.length-1) (s.1+1))
 |none=>(0,ways.length)
theorem ZrU (ways:List (List ByteArray)):bnd ways []=(0,ways.length):=rfl
theorem Zlj (ways:List (List ByteArray))(pre:List (Nat×Nat))(f t:Nat):bnd ways (pre++[(f,t)])=(st ways pre.length f,st ways pre.length (f+1)):=by simp[bnd]
def Zgx (ways:List (List ByteArray))(pre:List (Nat×Nat))(f:Nat):RLv:=(ZbE ways pre.length (bnd ways pre).1 (bnd ways pre).2,f-wid ways pre.length (bnd ways pre).1)
def Zij (ways:List (List ByteArray))(sp:List (Nat×Nat)):List RLv:=(List.range sp.length).map fun i=>Zgx ways (sp.take i) (sp[i]?.getD (0,0)).1
theorem ZpH (ways:List (List ByteArray))(sp:List (Nat×Nat)):(Zij ways sp).length=sp.length:=by simp[Zij]
theorem Zcq (ways:List (List ByteArray))(pre:List (Nat×Nat))(f t:Nat):Zij ways (pre++[(f,t)])=Zij ways pre++[Zgx ways pre f]:=by
 unfold Zij
 rw[List.length_append,List.length_singleton,List.range_succ,List.map_append]
 congr 1
 ·apply List.map_congr_left
  intro i hi
  have hi:=List.mem_range.1 hi
  rw[List.take_append_of_le_length (by omega),List.getElem?_append_left hi]
 ·simp
theorem CurSt.bnd {d:Nat}{ways:List (List ByteArray)}{sp:List (Nat×Nat)}{A B:Nat}(h:CurSt d ways sp A B):∀pre s,sp=pre++[s]→bnd ways pre=(A,B):=by
 cases h with
 |one f0 hd hN hf=>
  intro pre s e
  have e2:([]:List (Nat×Nat))++[(f0,wid ways 0 ways.length)]=pre++[s]:=e
  rw[←(ZcH e2).1]
  rfl
 |more pre0 f0 t0 A0 B0 f2 h0 hlt hd h1 h2=>
  intro pre s e
  rw[←(ZcH e).1,Zlj]
structure LvF (d:Nat)(ways:List (List ByteArray))(pre:List (Nat×Nat))(f t:Nat):Prop where
 ok:∃A B,CurSt d ways (pre++[(f,t)]) A B∧ZbJ d ways pre f t A B∧Zgx ways pre f=(ZbE ways pre.length A B,f-wid ways pre.length A)∧(ZbE ways pre.length A B).length=t-wid ways pre.length A∧wid ways pre.length A≤f
theorem ZbW.lv {d:Nat}{ways:List (List ByteArray)}(hw:ZcE d ways){pre:List (Nat×Nat)}{f t:Nat}(h:ZbW d ways (pre++[(f,t)])):LvF d ways pre f t:=by
 obtain⟨A,B,hs⟩:=h.st (by simp)
 have F:=hs.facts hw pre f t rfl
 refine⟨A,B,hs,F,?_,?_,F.ge⟩
 ·unfold Zgx
  rw[hs.bnd pre (f,t) rfl]
 ·rw[Zkh F.seg,F.top]
theorem ZbW.init {d:Nat}{ways:List (List ByteArray)}{pre:List (Nat×Nat)}{s:Nat×Nat}(h:ZbW d ways (pre++[s])):ZbW d ways pre∧Zle pre=false:=by
 obtain⟨A,B,hs⟩:=h.st (by simp)
 rcases hs.pop pre s rfl with rfl|⟨pre0,f,t,A0,B0,rfl,hlt,h0,_⟩
 ·exact⟨.inl rfl,rfl⟩
 ·exact⟨.inr ⟨_,_,h0⟩,by rw[Zbu,decide_eq_false (by omega)]⟩
theorem Zjc {d:Nat}{ways:List (List ByteArray)}(hw:ZcE d ways){sp:List (Nat×Nat)}(h:ZbW d ways sp):Zti (Zij ways sp)=Zle sp:=by
 rcases Zbq sp with rfl|⟨pre,⟨f,t⟩,rfl⟩
 ·rfl
 ·obtain⟨A,B,hs,F,e,hl,hge⟩:=(h.lv hw).ok
  rw[Zcq,e,ZgR,hl,Zbu,decide_eq_decide]
  have:=F.le
  omega
theorem ZhM (ls:List RLv)(p:RLv):Zii (ls++[p])=Zii ls++[p.1[p.2]?.getD ⟨#[]⟩]:=by simp[Zii]
theorem Zq7 {d:Nat}{ways:List (List ByteArray)}{pre:List (Nat×Nat)}{f t A B:Nat}(F:ZbJ d ways pre f t A B)(hft:f<t):(ZbE ways pre.length A B)[f-wid ways pre.length A]?.getD ⟨#[]⟩=ZbP ways pre.length (st ways pre.length f):=by
 have h1:=F.top
 have h2:=F.ge
 rw[ZhL F.seg (by omega),show wid ways pre.length A+(f-wid ways pre.length A)=f by omega]
 rfl
theorem Zmm {d:Nat}{ways:List (List ByteArray)}(hw:ZcE d ways):∀(n:Nat) (sp:List (Nat×Nat)),sp.length=n→ZbW d ways sp→Zle sp=false→Zii (Zij ways sp)=ZcT ways sp:=by
 intro n
 induction n with
 |zero=>
  intro sp hn _ _
  obtain rfl:sp=[]:=List.eq_nil_of_length_eq_zero hn
  rfl
 |succ n ih=>
  intro sp hn h he
  rcases Zbq sp with rfl|⟨pre,⟨f,t⟩,rfl⟩
  ·simp at hn
  ·obtain⟨A,B,hs,F,e,hl,hge⟩:=(h.lv hw).ok
   rw[Zbu] at he
   have hft:f≠t:=by simpa using he
   have hle:=F.le
   rw[Zcq,ZhM,ih pre (by simpa using hn) h.init.1 h.init.2,ZeZ,e]
   dsimp only
   rw[Zq7 F (by omega)]
theorem Znq {d:Nat}{ways:List (List ByteArray)}(hw:ZcE d ways){sp:List (Nat×Nat)}(h:ZbW d ways sp)(hm:ZcS d ways sp=true):Zij ways (sp++[Znb ways sp])=Zij ways sp++[(ZrT d ways (ZcT ways sp),0)]:=by
 have hm2:=hm
 unfold ZcS at hm2
 simp only[Bool.and_eq_true,Bool.not_eq_true',decide_eq_false_iff_not] at hm2
 obtain⟨⟨m1,m2⟩,m3⟩:=hm2
 rcases Zbq sp with rfl|⟨pre,⟨f,t⟩,rfl⟩
 ·rw[Zpw,Zcq]
  have hd0:0<d:=by
   rcases Nat.eq_zero_or_pos d with e|e
   ·exact absurd e.symm m2
   ·exact e
  have hf:Zq4 d ways [] (ZbE ways 0 0 ways.length):=.inl ⟨0,0,ways.length,hd0,Zgr.start [] (by omega),rfl⟩
  have:=hf.eq hw
  unfold ZrT ZcT
  rw[List.mapIdx_nil,←this]
  unfold Zgx
  rw[ZrU]
  rfl
 ·obtain⟨A,B,hs,F,e,hl,hge⟩:=(h.lv hw).ok
  rw[Zbu] at m1
  have hft:f≠t:=by simpa using m1
  have hle:=F.le
  have hlen:(pre++[(f,t)]).length=pre.length+1:=by simp
  have hk:(ZcT ways (pre++[(f,t)])).length=pre.length+1:=by rw[Zif,hlen]
  have hdep:=F.dep
  rw[hlen] at m2
  have hf:Zq4 d ways (ZcT ways (pre++[(f,t)])) (ZbE ways (pre.length+1) (st ways pre.length f) (st ways pre.length (f+1))):=.inl ⟨f,_,_,by omega,F.find hw (by omega),by rw[hk]⟩
  have:=hf.eq hw
  rw[Zgh,Zcq]
  unfold ZrT
  rw[←this]
  unfold Zgx
  rw[Zlj,hlen]
  simp
theorem ZrV (ways:List (List ByteArray))(sp:List (Nat×Nat)):Zij ways sp.dropLast=(Zij ways sp).dropLast:=by
 rcases Zbq sp with rfl|⟨pre,⟨f,t⟩,rfl⟩
 ·rfl
 ·rw[List.dropLast_concat,Zcq,List.dropLast_concat]
theorem ZbW.next_lv {d:Nat}{ways:List (List ByteArray)}(hw:ZcE d ways){pre:List (Nat×Nat)}{f t:Nat}(hc:ZbW d ways (pre++[(f,t)]))(hft:f≠t):
  Zij ways (Zno (pre++[(f,t)]))=Zij ways pre++[((Zgx ways pre f).1,(Zgx ways pre f).2+1)]∧ZpE (pre++[(f,t)])=decide ((Zgx ways pre f).2+1<(Zgx ways pre f).1.length):=by
 obtain⟨A,B,hs,F,e,hlv,hge⟩:=(hc.lv hw).ok
 have hle:=F.le
 rw[ZfJ,ZhK,if_neg hft,if_neg hft,Zcq]
 have e2:Zgx ways pre (f+1)=(ZbE ways pre.length A B,f-wid ways pre.length A+1):=by
  have:Zgx ways pre (f+1)=((Zgx ways pre f).1,f+1-wid ways pre.length (bnd ways pre).1):=rfl
  rw[this,e,hs.bnd pre (f,t) rfl]
  dsimp only
  rw[show f+1-wid ways pre.length A=f-wid ways pre.length A+1 by omega]
 rw[e2,e]
 refine⟨rfl,?_⟩
 dsimp only
 rw[hlv,Bool.eq_iff_iff]
 simp
 omega
theorem ZbW.seek_lv {d:Nat}{ways:List (List ByteArray)}(hw:ZcE d ways){pre:List (Nat×Nat)}{f t:Nat}(hc:ZbW d ways (pre++[(f,t)]))(hft:f≠t)(x:ByteArray):
  ∃j,(Zgx ways pre f).2≤j∧j≤(Zgx ways pre f).1.length∧(∀i y,(Zgx ways pre f).2≤i→i<j→(Zgx ways pre f).1[i]? =some y→ltB y x=true)∧(∀y,(Zgx ways pre f).1[j]? =some y→ltB y x=false)∧
   Zij ways (Znp ways (pre++[(f,t)]) x)=Zij ways pre++[((Zgx ways pre f).1,j)]∧ZpG ways (pre++[(f,t)]) x=decide (j<(Zgx ways pre f).1.length):=by
 obtain⟨A,B,hs,F,e,hlv,hge⟩:=(hc.lv hw).ok
 have hle:=F.le
 have htop:=F.top
 have hbn:=ZaY ways pre.length F.seg.top
 have hk:∀i,i<t-wid ways pre.length A→(Zcc ways pre.length ways.length)[wid ways pre.length A+i]? =(ZbE ways pre.length A B)[i]?:=fun i hi=>by
  rw[ZhL F.seg (by omega),ZfG ways pre.length _ (by omega)]
 obtain⟨q1,q2,q3,q4⟩:=Zi0 (ks:=Zcc ways pre.length ways.length) x hle (by rw[ZcM];omega)
 rw[Zen,ZfK,if_neg hft,if_neg hft,Zcq]
 generalize skP (Zcc ways pre.length ways.length) f t x=r at*
 have e2:Zgx ways pre r=(ZbE ways pre.length A B,r-wid ways pre.length A):=by
  have:Zgx ways pre r=((Zgx ways pre f).1,r-wid ways pre.length (bnd ways pre).1):=rfl
  rw[this,e,hs.bnd pre (f,t) rfl]
 rw[e2,e]
 dsimp only
 rw[hlv]
 refine⟨r-wid ways pre.length A,by omega,by omega,fun i y i1 i2 hy=>?_,fun y hy=>?_,rfl,?_⟩
 ·rw[←hk i (by omega)] at hy
  exact q3 _ y (by omega) (by omega) hy
 ·have hlt:=(zgs hy).1
  rw[hlv] at hlt
  rw[←hk _ hlt,show wid ways pre.length A+(r-wid ways pre.length A)=r by omega] at hy
  exact q4 (by omega) y hy
 ·rw[Bool.eq_iff_iff]
  simp
  omega
theorem ZpI (ways:List (List ByteArray))(b:List ByteArray)(k:ByteArray)(hl:∀x∈ways,b.length<x.length):k∈Zih ways b↔∃x∈ways,x.take (b.length+1)=b++[k]:=by
 revert hl
 refine ZgI (P:=fun ways=>(∀x∈ways,b.length<x.length)→(k∈Zih ways b↔∃x∈ways,x.take (b.length+1)=b++[k])) (fun _=>by simp[Zih]) (fun l x ih hl=>?_) ways
 have ih:=ih fun y hy=>hl y (by simp[hy])
 have hx:b.length<x.length:=hl x (by simp)
 have ht:x.take (b.length+1)=x.take b.length++[x[b.length]?.getD ⟨#[]⟩]:=by
  rw[List.take_add_one,zge hx]
  rfl
 have hlb:(x.take b.length).length=b.length:=by rw[List.length_take];omega
 have hone:x.take (b.length+1)=b++[k]↔x.take b.length=b∧x[b.length]?.getD ⟨#[]⟩=k:=by
  rw[ht]
  constructor
  ·intro e
   have:=List.append_inj e hlb
   exact⟨this.1,by simpa using this.2⟩
  ·rintro⟨e1,e2⟩
   rw[e1,e2]
 have hor:(∃y∈l++[x],y.take (b.length+1)=b++[k])↔(k∈Zih l b∨x.take b.length=b∧x[b.length]?.getD ⟨#[]⟩=k):=by
  rw[ih,←hone]
  simp only[List.mem_append,List.mem_singleton]
  constructor
  ·rintro⟨y,hy|rfl,e⟩
   ·exact .inl ⟨y,hy,e⟩
   ·exact .inr e
  ·rintro (⟨y,hy,e⟩|e)
   ·exact⟨y,.inl hy,e⟩
   ·exact⟨x,.inr rfl,e⟩
 rw[hor,Ze5]
 unfold ZfL
 by_cases hb:x.take b.length=b
 ·rw[if_pos hb]
  by_cases hlst:(Zih l b).getLast? =some (x[b.length]?.getD ⟨#[]⟩)
  ·rw[if_pos hlst]
   refine⟨.inl,fun h=>?_⟩
   rcases h with h|⟨_,h⟩
   ·exact h
   ·rw[←h]
    exact List.mem_of_getLast? hlst
  ·rw[if_neg hlst,List.mem_append,List.mem_singleton]
   constructor
   ·rintro (h|h)
    ·exact .inl h
    ·exact .inr ⟨hb,h.symm⟩
   ·rintro (h|⟨_,h⟩)
    ·exact .inl h
    ·exact .inr h.symm
 ·rw[if_neg hb]
  exact⟨.inl,fun h=>h.elim id fun h=>absurd h.1 hb⟩
def ZgS (ks:List ByteArray):Prop:=ks.Pairwise fun a b=>ltB a b=true
theorem Zki {d:Nat}{ways:List (List ByteArray)}(hw:ZcE d ways){b:List ByteArray}(hb:b.length<d):ZgS (Zih ways b):=by
 have main:∀m,m≤ways.length→ZgS (Zih (ways.take m) b)∧∀k,k∈Zih (ways.take m) b→∀q,m≤q→q<ways.length→(Za9 ways q).take b.length=b→ltB k (ZbP ways b.length q)=true∨k=ZbP ways b.length q:=by
  intro m
  induction m with
  |zero=>exact fun _=>⟨List.Pairwise.nil,fun k hk=>by simp[Zih] at hk⟩
  |succ m ih=>
   intro hm
   obtain⟨i1,i2⟩:=ih (by omega)
   rw[ZfM (by omega),Ze5]
   unfold ZfL
   have e3:(Za9 ways m)[b.length]?.getD ⟨#[]⟩=ZbP ways b.length m:=rfl
   rw[e3]
   by_cases hx:(Za9 ways m).take b.length=b
   ·rw[if_pos hx]
    have hthis:∀q,m+1≤q→q<ways.length→(Za9 ways q).take b.length=b→ltB (ZbP ways b.length m) (ZbP ways b.length q)=true∨ZbP ways b.length m=ZbP ways b.length q:=by
     intro q h1 h2 h3
     by_cases he:(Za9 ways m).take (b.length+1)=(Za9 ways q).take (b.length+1)
     ·rw[Zdf hw (by omega) hb,Zdf hw (by omega) hb] at he
      exact .inr (by simpa using (List.append_inj' he rfl).2)
     ·exact .inl (hw.key_lt hb (by omega) h2 (by rw[hx,h3]) he)
    by_cases hl:(Zih (ways.take m) b).getLast? =some (ZbP ways b.length m)
    ·rw[if_pos hl]
     exact⟨i1,fun k hk q h1 h2 h3=>i2 k hk q (by omega) h2 h3⟩
    ·rw[if_neg hl]
     refine⟨?_,fun k hk q h1 h2 h3=>?_⟩
     ·refine List.pairwise_append.2 ⟨i1,List.pairwise_singleton _ _,fun k hk y hy=>?_⟩
      rw[List.mem_singleton] at hy
      subst hy
      rcases i2 k hk m (Nat.le_refl _) (by omega) hx with h|h
      ·exact h
      ·exfalso
       subst h
       obtain⟨pre,z,hz⟩:∃pre z,Zih (ways.take m) b=pre++[z]:=by
        rcases Zbq (Zih (ways.take m) b) with e|e
        ·rw[e] at hk
         cases hk
        ·exact e
       rw[hz,List.getLast?_concat] at hl
       rw[hz] at hk i1
       rcases List.mem_append.1 hk with hk|hk
       ·have h1:=(List.pairwise_append.1 i1).2.2 _ hk z (by simp)
        rcases i2 z (by rw[hz];simp) m (Nat.le_refl _) (by omega) hx with h2|h2
        ·exact Zbb _ (Zbp h1 h2)
        ·exact hl (by rw[h2])
       ·exact hl (by rw[List.mem_singleton.1 hk])
     ·rcases List.mem_append.1 hk with hk|hk
      ·exact i2 k hk q (by omega) h2 h3
      ·rw[List.mem_singleton.1 hk]
       exact hthis q h1 h2 h3
   ·rw[if_neg hx]
    exact⟨i1,fun k hk q h1 h2 h3=>i2 k hk q (by omega) h2 h3⟩
 have:=(main ways.length (Nat.le_refl _)).1
 rwa [List.take_length] at this
