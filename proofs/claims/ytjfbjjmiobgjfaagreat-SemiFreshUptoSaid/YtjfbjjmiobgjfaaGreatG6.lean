/- Lists of numbers in memory; the walks of slices.Index, slices.Contains at numbers. -/
import Derived.Test.YtjfbjjmiobgjfaaGreatG5
set_option maxRecDepth 100000
set_option maxHeartbeats 8000000
namespace Go.Proofs.YtjfbjjmiobgjfaaGreat
open ChangeShapes WideShapes ChangeAt RowKit
def Zk5 (w:World)(b o:Nat)(x:Int):Prop:=w.cell? ⟨b,o,none⟩=some (.int .i64 x)
def ZdF (w:World)(a:Option Addr)(n:Nat)(xs:List Int):Prop:=n≤maxLen∧Zce Zk5 1 w a n xs
theorem ZdF.keep {W w:World}(hb:Ext W w){a:Option Addr}{n:Nat}{xs:List Int}(h:ZdF W a n xs):ZdF w a n xs:=⟨h.1,h.2.keep fun _ _ _=>YtjfbjjmiobgjfaaGreat.Zac hb⟩
abbrev Zm6 (x:Int):Value:=.int .i64 x
theorem ZqW {w:World}{base:Nat}{a:Option Addr}{n cap:Nat}{xs:List Int}(h:w.ownsRow base 3 1 (.slice a n cap) n (xs.map Zm6))(hn:n≤maxLen):ZdF w a n xs:=by
 have hl:=h.1
 rw[List.length_map,Nat.mul_one] at hl
 refine⟨hn,hl,fun i x hx=>?_⟩
 have hi:=(zgs hx).1
 rcases h.2 with⟨h1,h0⟩|⟨g,c',cur,hv,_⟩
 ·omega
 ·cases hv
  have:=h.cells (g:=g) rfl i (.int .i64 x) (by rw[List.getElem?_map,hx];rfl)
  rw[Addr.add_lit] at this
  exact⟨g,0,rfl,by simpa [Zk5] using this⟩
theorem ZdF.take {w:World}{a:Option Addr}{n:Nat}{xs:List Int}(h:ZdF w a n xs){k:Nat}(hk:k≤n):ZdF w a k (xs.take k):=by
 refine⟨Nat.le_trans hk h.1,by rw[List.length_take,h.2.1];omega,fun i x hx=>?_⟩
 rw[List.getElem?_take] at hx
 split at hx
 ·exact h.2.2 i x hx
 ·cases hx
def ZiX:List Int→Int→Nat→Int
 |[],_,_=> -1
 |y::l,x,k=>if x=y then (k:Int) else ZiX l x (k+1)
theorem Zpl (l:List Int)(x:Int)(k:Nat):decide (0≤ZiX l x k)=decide (x∈l):=by
 induction l generalizing k with
 |nil=>rfl
 |cons y l ih=>
  rw[ZiX]
  by_cases h:x=y
  ·rw[if_pos h]
   simp[h]
  ·rw[if_neg h,ih]
   simp[h]
theorem Zta (xs:List Int)(x:Int)(a:Option Addr)(n cap:Nat)(w:World)(h:ZdF w a n xs):
  Calls Tryz.prog 178 #[.slice a n cap,.int .i64 x] w fun e w'=>e=.returned (.int .i64 (ZiX xs x 0))∧w'=w:=by
 have H:=zh h
 have HL:=zh h.2.1
 have hn:n≤9223372036854775807:=h.1
 clear h
 obtain⟨R,hR⟩:∃R,R=ZiX xs x 0:=⟨_,rfl⟩
 rw[←hR]
 have FIN:=zh hR
 clear hR
 go_enter Tryz.func178,Tryz.ntmps178
 go_wp2
 go_loopw [8] (fun v wj=>∃k:Nat,k≤n∧v=.int .i64 (k:Int)∧wj=w∧R=ZiX (xs.drop k) x k) (fun v _=>n-(intOf v).toNat)
 case atStart=>exact⟨0,by omega,rfl,rfl,by rw[FIN.out,List.drop_zero]⟩
 case round=>
  obtain⟨k,hk,rfl,rfl,hq⟩:=hrel
  have HQ:=zh hq
  clear hq
  by_cases hlt:k<n
  ·have hki:(k:Int)<(n:Int):=by omega
   obtain⟨y,b1,o1,hx,rfl,h1⟩:=H.out.2.at hlt
   have HX:=zh hx
   have g1:wr.cell? ⟨b1,o1+k,none⟩=some (.int .i64 y):=by simpa [Zk5] using h1
   clear hx h1
   have HST:Hid (R=if x=y then (k:Int) else ZiX (xs.drop (k+1)) x (k+1)):=by
    show _=_
    rw[HQ.out,Zbn HX.out,ZiX]
   by_cases he:x=y
   ·subst he
    go_wp2
    go_returns
    exact⟨by rw[HST.out];simp,rfl⟩
   ·have HE:=zh he
    go_wp2
    go_roundw
    case rel=>exact⟨k+1,by omega,by go_num,by first|trivial|rfl,by rw[HST.out,if_neg HE.out]⟩
    case measure=>simp[intOf];omega
  ·obtain rfl:k=n:=by omega
   have hge:¬(k:Int)<(k:Int):=by omega
   go_wp2
   go_returns
   exact⟨by rw[HQ.out,List.drop_of_length_le (by have:=HL.out;omega)];rfl,rfl⟩
theorem Zm7 (xs:List Int)(x:Int)(a:Option Addr)(n cap:Nat)(w:World)(h:ZdF w a n xs):
  Calls Tryz.prog 149 #[.slice a n cap,.int .i64 x] w fun e w'=>e=.returned (.bool (decide (x∈xs)))∧w'=w:=by
 have H:=zh h
 clear h
 obtain⟨b,hb⟩:∃b,decide (0≤ZiX xs x 0)=b:=⟨_,rfl⟩
 have HB:=zh hb
 have HM:Hid (decide (x∈xs)=b):=by show _=_;rw[←hb,Zpl]
 clear hb
 go_enter Tryz.func149,Tryz.ntmps149
 go_wp2_with (go_at_call 178;(with_reducible refine(Zta xs x _ _ _ _ H.out).mono ?_);rintro e w1 ⟨rfl,hw1⟩;obtain rfl:=hw1.symm)
 go_returns
 exact⟨by rw[HM.out,←HB.out];rfl,rfl⟩
def Za9 (ways:List (List ByteArray))(m:Nat):List ByteArray:=ways[m]?.getD []
def Zbx (ways:List (List ByteArray))(i m:Nat):Bool:=decide (m=0)||!decide ((Za9 ways (m-1)).take (i+1)=(Za9 ways m).take (i+1))
def Zek (ways:List (List ByteArray))(i n:Nat):List Nat:=(List.range n).filter (Zbx ways i)
def wid (ways:List (List ByteArray))(i n:Nat):Nat:=(Zek ways i n).length
def ZbP (ways:List (List ByteArray))(i m:Nat):ByteArray:=(Za9 ways m)[i]?.getD ⟨#[]⟩
def Zcc (ways:List (List ByteArray))(i n:Nat):List ByteArray:=(Zek ways i n).map (ZbP ways i)
def ZfF (ways:List (List ByteArray))(i n:Nat):List Nat:=(Zek ways i n).map (wid ways (i+1))
def st (ways:List (List ByteArray))(i j:Nat):Nat:=(Zek ways i ways.length)[j]?.getD ways.length
theorem ZcD (ways:List (List ByteArray))(i n:Nat):Zek ways i (n+1)=Zek ways i n++if Zbx ways i n=true then [n] else []:=by
 unfold Zek
 rw[List.range_succ,List.filter_append]
 congr 1
 by_cases h:Zbx ways i n=true <;> simp[h]
theorem Zcd (ways:List (List ByteArray))(i n:Nat):wid ways i (n+1)=wid ways i n+if Zbx ways i n=true then 1 else 0:=by
 unfold wid
 rw[ZcD,List.length_append]
 split <;> rfl
theorem ZiY (ways:List (List ByteArray))(i:Nat):wid ways i 0=0:=rfl
theorem Zib (ways:List (List ByteArray))(i n:Nat):wid ways i n≤n:=by
 induction n with
 |zero=>exact Nat.le_refl _
 |succ n ih=>rw[Zcd];split <;> omega
theorem ZaY (ways:List (List ByteArray))(i:Nat){m n:Nat}(h:m≤n):wid ways i m≤wid ways i n:=by
 induction n with
 |zero=>rw[Nat.le_zero.1 h];exact Nat.le_refl _
 |succ n ih=>
  rcases Nat.lt_or_ge m (n+1) with h1|h1
  ·have:=ih (by omega)
   rw[Zcd]
   omega
  ·obtain rfl:m=n+1:=by omega
   exact Nat.le_refl _
theorem ZiZ (ways:List (List ByteArray))(i:Nat){m n:Nat}(h:m≤n):∃t,Zek ways i n=Zek ways i m++t:=by
 induction n with
 |zero=>rw[Nat.le_zero.1 h];exact⟨[],(List.append_nil _).symm⟩
 |succ n ih=>
  rcases Nat.lt_or_ge m (n+1) with h1|h1
  ·obtain⟨t,ht⟩:=ih (by omega)
   rw[ZcD,ht,List.append_assoc]
   exact⟨_,rfl⟩
  ·obtain rfl:m=n+1:=by omega
   exact⟨[],(List.append_nil _).symm⟩
theorem Zhr (ways:List (List ByteArray))(i:Nat){m n:Nat}(h:m<n)(hf:Zbx ways i m=true):(Zek ways i n)[wid ways i m]? =some m:=by
 obtain⟨t,ht⟩:=ZiZ ways i (show m+1≤n from h)
 rw[ht,ZcD,if_pos hf,List.append_assoc]
 unfold wid
 rw[List.getElem?_append_right (Nat.le_refl _),Nat.sub_self]
 rfl
theorem Zgd (ways:List (List ByteArray))(i:Nat){j n:Nat}(h:j<wid ways i n):∃m,(Zek ways i n)[j]? =some m∧m<n∧Zbx ways i m=true∧wid ways i m=j:=by
 induction n with
 |zero=>rw[ZiY] at h;omega
 |succ n ih=>
  rcases Nat.lt_or_ge j (wid ways i n) with h1|h1
  ·obtain⟨m,h2,h3,h4,h5⟩:=ih h1
   refine⟨m,?_,by omega,h4,h5⟩
   rw[ZcD,List.getElem?_append_left h1]
   exact h2
  ·rw[Zcd] at h
   by_cases hf:Zbx ways i n=true
   ·rw[if_pos hf] at h
    obtain rfl:j=wid ways i n:=by omega
    exact⟨n,Zhr ways i (Nat.lt_succ_self n) hf,Nat.lt_succ_self n,hf,rfl⟩
   ·rw[if_neg hf] at h
    omega
theorem Zic (ways:List (List ByteArray))(i j:Nat)(h:wid ways i ways.length≤j):st ways i j=ways.length:=by
 unfold st
 rw[List.getElem?_eq_none h]
 rfl
theorem Zdl (ways:List (List ByteArray))(i j:Nat)(h:j<wid ways i ways.length):st ways i j<ways.length∧Zbx ways i (st ways i j)=true∧wid ways i (st ways i j)=j:=by
 obtain⟨m,h1,h2,h3,h4⟩:=Zgd ways i h
 unfold st
 rw[h1]
 exact⟨h2,h3,h4⟩
theorem Zl9 (ways:List (List ByteArray))(i j:Nat)(h:j≤wid ways i ways.length):wid ways i (st ways i j)=j:=by
 rcases Nat.lt_or_ge j (wid ways i ways.length) with h1|h1
 ·exact(Zdl ways i j h1).2.2
 ·rw[Zic ways i j h1]
  omega
theorem Zva (ways:List (List ByteArray))(i j:Nat):st ways i j≤ways.length:=by
 rcases Nat.lt_or_ge j (wid ways i ways.length) with h1|h1
 ·exact Nat.le_of_lt (Zdl ways i j h1).1
 ·rw[Zic ways i j h1]
  exact Nat.le_refl _
theorem Zpm (ways:List (List ByteArray))(i:Nat){j k:Nat}(h:j<k)(hk:k≤wid ways i ways.length):st ways i j<st ways i k:=by
 rcases Nat.lt_or_ge (st ways i j) (st ways i k) with h1|h1
 ·exact h1
 ·have:=ZaY ways i h1
  rw[Zl9 ways i j (by omega),Zl9 ways i k hk] at this
  omega
theorem Zk6 (ways:List (List ByteArray))(i:Nat){j k:Nat}(h:j≤k)(hk:k≤wid ways i ways.length):st ways i j≤st ways i k:=by
 rcases Nat.lt_or_ge j k with h1|h1
 ·exact Nat.le_of_lt (Zpm ways i h1 hk)
 ·obtain rfl:j=k:=by omega
  exact Nat.le_refl _
def ZrI (ways:List (List ByteArray))(i m:Nat):Prop:=m=ways.length∨m<ways.length∧Zbx ways i m=true
theorem Zpn (ways:List (List ByteArray))(i j:Nat):ZrI ways i (st ways i j):=by
 rcases Nat.lt_or_ge j (wid ways i ways.length) with h1|h1
 ·have:=Zdl ways i j h1
  exact .inr ⟨this.1,this.2.1⟩
 ·exact .inl (Zic ways i j h1)
theorem ZrJ (ways:List (List ByteArray))(i:Nat){m:Nat}(h:ZrI ways i m):st ways i (wid ways i m)=m:=by
 rcases h with rfl|⟨h1,h2⟩
 ·exact Zic ways i _ (Nat.le_refl _)
 ·unfold st
  rw[Zhr ways i h1 h2]
  rfl
theorem Zj2 {a b:List ByteArray}{i k:Nat}(h:a.take i=b.take i)(hk:k≤i):a.take k=b.take k:=by
 have h1:=congrArg (List.take k) h
 rw[List.take_take,List.take_take,Nat.min_eq_left hk] at h1
 exact h1
theorem Zma (ways:List (List ByteArray)){i k m:Nat}(h:Zbx ways i m=true)(hk:i≤k):Zbx ways k m=true:=by
 unfold Zbx at*
 simp only[Bool.or_eq_true,decide_eq_true_eq,Bool.not_eq_true',decide_eq_false_iff_not] at*
 rcases h with h|h
 ·exact .inl h
 ·exact .inr fun e=>h (Zj2 e (by omega))
theorem ZrI.up {ways:List (List ByteArray)}{i k m:Nat}(h:ZrI ways i m)(hk:i≤k):ZrI ways k m:=by
 rcases h with h|⟨h1,h2⟩
 ·exact .inl h
 ·exact .inr ⟨h1,Zma ways h2 hk⟩
theorem Zge (ways:List (List ByteArray))(i:Nat):Zbx ways i 0=true:=rfl
theorem Zhs (ways:List (List ByteArray))(i:Nat){m k:Nat}(h:m≤k)(hw:wid ways i (m+1)=wid ways i (k+1)):(Za9 ways m).take (i+1)=(Za9 ways k).take (i+1):=by
 induction k with
 |zero=>rw[Nat.le_zero.1 h]
 |succ k ih=>
  rcases Nat.lt_or_ge m (k+1) with h1|h1
  ·have h2:=ZaY ways i (show m+1≤k+1 by omega)
   have h3:=Zcd ways i (k+1)
   have hf:¬Zbx ways i (k+1)=true:=by
    intro hf
    rw[if_pos hf] at h3
    omega
   rw[if_neg hf] at h3
   rw[ih (by omega) (by omega)]
   unfold Zbx at hf
   simpa using hf
  ·obtain rfl:m=k+1:=by omega
   rfl
theorem Ztb (ways:List (List ByteArray))(i j m:Nat)(hj:j<wid ways i ways.length)(h1:st ways i j≤m)(h2:m<st ways i (j+1)):wid ways i (m+1)=j+1∧(Za9 ways m).take (i+1)=(Za9 ways (st ways i j)).take (i+1):=by
 have e1:wid ways i (st ways i j+1)=j+1:=by
  have:=Zdl ways i j hj
  rw[Zcd,if_pos this.2.1,this.2.2]
 have e2:=Zl9 ways i (j+1) hj
 have e3:=ZaY ways i (show m+1≤st ways i (j+1) by omega)
 have e4:=ZaY ways i (show st ways i j+1≤m+1 by omega)
 exact⟨by omega,(Zhs ways i h1 (by omega)).symm⟩
def nd (ways:List (List ByteArray))(i m:Nat):Nat:=wid ways i (m+1)-1
theorem Zk7 (ways:List (List ByteArray))(i m:Nat)(hm:m<ways.length):nd ways i m+1=wid ways i (m+1)∧nd ways i m<wid ways i ways.length∧st ways i (nd ways i m)≤m∧m<st ways i (nd ways i m+1):=by
 have h0:0<wid ways i (m+1):=by
  have:=ZaY ways i (show 1≤m+1 by omega)
  have h1:wid ways i 1=_:=Zcd ways i 0
  rw[Zge,if_pos rfl,ZiY] at h1
  omega
 have h1:nd ways i m+1=wid ways i (m+1):=by unfold nd;omega
 have h2:=ZaY ways i (show m+1≤ways.length by omega)
 refine⟨h1,by omega,?_,?_⟩
 ·rcases Nat.lt_or_ge m (st ways i (nd ways i m)) with h|h
  ·have h3:=ZaY ways i (show m+1≤st ways i (nd ways i m) by omega)
   rw[Zl9 ways i _ (by omega)] at h3
   omega
  ·exact h
 ·rcases Nat.lt_or_ge m (st ways i (nd ways i m+1)) with h|h
  ·exact h
  ·have hn:nd ways i m+1<wid ways i ways.length:=by
    rcases Nat.lt_or_ge (nd ways i m+1) (wid ways i ways.length) with h5|h5
    ·exact h5
    ·rw[Zic ways i _ h5] at h
     omega
   have h6:=Zdl ways i _ hn
   have h4:=Zcd ways i (st ways i (nd ways i m+1))
   rw[if_pos h6.2.1,h6.2.2] at h4
   have h3:=ZaY ways i (show st ways i (nd ways i m+1)+1≤m+1 by omega)
   omega
/-! The order of ways. -/
structure ZcE (d:Nat)(ways:List (List ByteArray)):Prop where
 rising:Zbg ways
 len:∀r∈ways,r.length=d
theorem ZcE.at {d:Nat}{ways:List (List ByteArray)}(h:ZcE d ways){m:Nat}(hm:m<ways.length):ways[m]? =some (Za9 ways m)∧(Za9 ways m).length=d:=by
 have h1:ways[m]? =some ways[m]:=zge hm
 have h2:Za9 ways m=ways[m]:=by unfold Za9;rw[h1];rfl
 rw[h2]
 exact⟨h1,h.len _ (List.getElem_mem hm)⟩
theorem ZcE.lt {d:Nat}{ways:List (List ByteArray)}(h:ZcE d ways){m k:Nat}(hmk:m<k)(hk:k<ways.length):Zaj (Za9 ways m) (Za9 ways k)<0:=by
 obtain⟨h1,h2⟩:=zgs (h.at (show m<ways.length by omega)).1
 obtain⟨h3,h4⟩:=zgs (h.at hk).1
 have:=List.pairwise_iff_getElem.1 h.rising m k h1 h3 hmk
 rwa [h2,h4] at this
theorem Zmb:∀(i:Nat) (x y:List ByteArray),x.length=y.length→Zaj x y<0→Zaj (x.take i) (y.take i)≤0
 |0,_,_,_,_=>by simp[Zaj]
 |i+1,[],[],_,_=>by simp[Zaj]
 |i+1,a::x,[],h,_=>by simp at h
 |i+1,[],b::y,h,_=>by simp at h
 |i+1,a::x,b::y,h,h2=>by
  rw[List.take_succ_cons,List.take_succ_cons,Zaj]
  rw[Zaj] at h2
  by_cases hc:ZfI a b≠0
  ·rw[if_pos hc] at h2 ⊢
   omega
  ·rw[if_neg hc] at h2 ⊢
   exact Zmb i x y (by simpa using h) h2
theorem Zk8 {x y:List ByteArray}(h1:Zaj x y≤0)(h2:Zaj y x≤0):x=y:=by
 have:=Zcg x y
 exact(ZaH x y).1 (by omega)
theorem ZcE.take_le {d:Nat}{ways:List (List ByteArray)}(h:ZcE d ways)(i:Nat){m k:Nat}(hmk:m≤k)(hk:k<ways.length):Zaj ((Za9 ways m).take i) ((Za9 ways k).take i)≤0:=by
 rcases Nat.lt_or_ge m k with h1|h1
 ·exact Zmb i _ _ (by rw[(h.at (by omega:m<ways.length)).2,(h.at hk).2]) (h.lt h1 hk)
 ·obtain rfl:m=k:=by omega
  rw[(ZaH _ _).2 rfl]
  exact Int.le_refl _
theorem ZcE.between {d:Nat}{ways:List (List ByteArray)}(h:ZcE d ways){i m x k:Nat}(h1:m≤x)(h2:x≤k)(hk:k<ways.length)(he:(Za9 ways m).take i=(Za9 ways k).take i):(Za9 ways x).take i=(Za9 ways m).take i:=by
 refine Zk8 ?_ (h.take_le i h1 (by omega))
 rw[he]
 exact h.take_le i h2 hk
theorem ZcE.same_nd {d:Nat}{ways:List (List ByteArray)}(h:ZcE d ways){i m k:Nat}(hmk:m≤k)(hk:k<ways.length)(he:(Za9 ways m).take (i+1)=(Za9 ways k).take (i+1)):wid ways i (m+1)=wid ways i (k+1):=by
 induction k with
 |zero=>rw[Nat.le_zero.1 hmk]
 |succ k ih=>
  rcases Nat.lt_or_ge m (k+1) with h1|h1
  ·have e:=h.between (i:=i+1) (show m≤k by omega) (Nat.le_succ k) hk he
   rw[ih (by omega) (by omega) e.symm,Zcd ways i (k+1),if_neg]
   ·rfl
   ·unfold Zbx
    simp
    rw[e,he]
  ·obtain rfl:m=k+1:=by omega
   rfl
theorem ZcE.nd_iff {d:Nat}{ways:List (List ByteArray)}(h:ZcE d ways){i m k:Nat}(hm:m<ways.length)(hk:k<ways.length):(Za9 ways m).take (i+1)=(Za9 ways k).take (i+1)↔nd ways i m=nd ways i k:=by
 have e1:=(Zk7 ways i m hm).1
 have e2:=(Zk7 ways i k hk).1
 rcases Nat.le_total m k with hmk|hmk
 ·constructor
  ·intro he
   have:=h.same_nd hmk hk he
   omega
  ·intro he
   exact Zhs ways i hmk (by omega)
 ·constructor
  ·intro he
   have:=h.same_nd hmk hm he.symm
   omega
  ·intro he
   exact(Zhs ways i hmk (by omega)).symm
theorem Zmc:∀(i:Nat) (x y:List ByteArray),i<x.length→i<y.length→x.take i=y.take i→x.take (i+1)≠y.take (i+1)→Zaj x y<0→ltB (x[i]?.getD ⟨#[]⟩) (y[i]?.getD ⟨#[]⟩)=true
 |i,[],_,h,_,_,_,_=>by simp at h
 |i,_::_,[],_,h,_,_,_=>by simp at h
 |0,a::x,b::y,_,_,_,h2,h3=>by
  simp only[List.getElem?_cons_zero,Option.getD_some]
  rw[Zaj] at h3
  have hne:ZfI a b≠0:=by
   intro e
   have:=(Zdt a b).1 e
   apply h2
   simp[this]
  rw[if_pos hne] at h3
  exact(Zde a b).1 h3
 |i+1,a::x,b::y,h0,h1,h2,h3,h4=>by
  simp only[List.getElem?_cons_succ]
  rw[List.take_succ_cons,List.take_succ_cons] at h2 h3
  injection h2 with e1 e2
  subst e1
  rw[Zaj,if_neg (by rw[(Zdt a a).2 rfl];simp)] at h4
  exact Zmc i x y (by simpa using h0) (by simpa using h1) e2 (fun e=>h3 (by rw[e])) h4
theorem ZcE.key_lt {d:Nat}{ways:List (List ByteArray)}(h:ZcE d ways){i m k:Nat}(hi:i<d)(hmk:m<k)(hk:k<ways.length)(he:(Za9 ways m).take i=(Za9 ways k).take i)(hne:(Za9 ways m).take (i+1)≠(Za9 ways k).take (i+1)):ltB (ZbP ways i m) (ZbP ways i k)=true:=
 Zmc i _ _ (by rw[(h.at (by omega:m<ways.length)).2];exact hi) (by rw[(h.at hk).2];exact hi) he hne (h.lt hmk hk)
theorem ZcE.fresh_d {d:Nat}{ways:List (List ByteArray)}(h:ZcE d ways){i m:Nat}(hi:d≤i+1)(hm:m<ways.length):Zbx ways i m=true:=by
 rcases Nat.eq_zero_or_pos m with rfl|h0
 ·rfl
 ·unfold Zbx
  have h1:=h.lt (show m-1<m by omega) hm
  have l1:=(h.at (show m-1<ways.length by omega)).2
  have l2:=(h.at hm).2
  rw[List.take_of_length_le (by omega),List.take_of_length_le (by omega)]
  have hne:Za9 ways (m-1)≠Za9 ways m:=by
   intro e
   rw[e,(ZaH _ _).2 rfl] at h1
   omega
  simp[hne]
theorem ZcE.wid_d {d:Nat}{ways:List (List ByteArray)}(h:ZcE d ways){i m:Nat}(hi:d≤i+1)(hm:m≤ways.length):wid ways i m=m:=by
 induction m with
 |zero=>rfl
 |succ m ih=>rw[Zcd,if_pos (h.fresh_d hi (by omega)),ih (by omega)]
theorem Zid (ways:List (List ByteArray))(i n:Nat):Zcc ways i (n+1)=if Zbx ways i n=true then Zcc ways i n++[ZbP ways i n] else Zcc ways i n:=by
 unfold Zcc
 rw[ZcD,List.map_append]
 split <;> simp
theorem Zie (ways:List (List ByteArray))(i n:Nat):ZfF ways i (n+1)=if Zbx ways i n=true then ZfF ways i n++[wid ways (i+1) n] else ZfF ways i n:=by
 unfold ZfF
 rw[ZcD,List.map_append]
 split <;> simp
theorem ZcM (ways:List (List ByteArray))(i n:Nat):(Zcc ways i n).length=wid ways i n:=by unfold Zcc;rw[List.length_map];rfl
theorem ZdG (ways:List (List ByteArray))(i n:Nat):(ZfF ways i n).length=wid ways i n:=by unfold ZfF;rw[List.length_map];rfl
theorem ZfG (ways:List (List ByteArray))(i j:Nat)(h:j<wid ways i ways.length):(Zcc ways i ways.length)[j]? =some (ZbP ways i (st ways i j)):=by
 obtain⟨m,h1,_⟩:=Zgd ways i h
 unfold Zcc st
 rw[List.getElem?_map,h1]
 rfl
theorem ZqX (ways:List (List ByteArray))(i j:Nat)(h:j≤wid ways i ways.length):(ZfF ways i ways.length++[wid ways (i+1) ways.length])[j]? =some (wid ways (i+1) (st ways i j)):=by
 rcases Nat.lt_or_ge j (wid ways i ways.length) with h1|h1
 ·rw[List.getElem?_append_left (by rw[ZdG];exact h1)]
  obtain⟨m,h2,_⟩:=Zgd ways i h1
  unfold ZfF st
  rw[List.getElem?_map,h2]
  rfl
 ·obtain rfl:j=wid ways i ways.length:=by omega
  rw[List.getElem?_append_right (by rw[ZdG];exact Nat.le_refl _),ZdG,Nat.sub_self,Zic ways i _ (Nat.le_refl _)]
  rfl
open ChangeShapes WideShapes ChangeAt RowKit Go.Shelf
attribute [local go_sem] Oper.semAt_some
def Zpo (rs:List (List ByteArray))(w:World)(e:Ending)(w':World):Prop:=∃bs a c vs,e=.returned (.func (.func 125) #[] #[.pointer (some ⟨bs,0,none⟩)])∧w.heap.size≤bs∧bs<w'.heap.size∧w'.cell? ⟨bs,0,none⟩=some (.slice a rs.length c)∧w'.ownsRow w.heap.size 54 1 (.slice a rs.length c) rs.length vs∧Zax w.heap.size w' vs rs∧Ext w w'
theorem Ztc (lo pb ar:Nat)(rs:List (List ByteArray))(w:World)(h:Zay w lo pb ar rs)(hn:rs.length≤1000000)(hr:∀r∈rs,r.length≤1000000):
  Calls Tryz.prog 101 #[.pointer (some ⟨pb,0,none⟩)] w (Zpo rs w):=by
 have AL:=zh (Zum lo pb ar rs w h hn hr)
 clear h hn hr
 go_enter Tryz.func101,Tryz.ntmps101
 go_wp2_with (first
  |(go_at_call 13;(with_reducible refine AL.out.mono ?_);rintro e w1 ⟨a7,c7,vs,rfl,r7,h7,e7⟩)
  |(go_at_call 91;(with_reducible refine(ZgH _ _ _ _).mono ?_);rintro e w2 ⟨rfl,hw2⟩;obtain rfl:=hw2.symm))
 go_returns
 exact⟨w1.heap.size,a7,c7,vs,rfl,e7.size,by simp,(Boxed.new w1 _ _).cell,Zar r7 (Zab zbr _),h7.ext (Zab zbr _),Zab e7 _⟩
def ZcF (os:List Int)(r:List ByteArray):List ByteArray:=os.map fun c=>r[c.toNat]?.getD ⟨#[]⟩
theorem Zht (os:List Int)(r:List ByteArray):(ZcF os r).length=os.length:=by simp[ZcF]
theorem Zm8 {os:List Int}{k:Nat}{c:Int}(h:os[k]? =some c)(r:List ByteArray){x:ByteArray}(hx:r[c.toNat]? =some x):ZcF (os.take (k+1)) r=ZcF (os.take k) r++[x]:=by
 rw[ZaA h]
 simp[ZcF,hx]
def ZfH (d:Nat)(xs:List ByteArray):List Value:=xs.map Value.string++List.replicate (d-xs.length) (.string ⟨#[]⟩)
theorem Zpp {d:Nat}{xs:List ByteArray}(h:xs.length<d)(x:ByteArray):(ZfH d xs).set xs.length (.string x)=ZfH d (xs++[x]):=by
 unfold ZfH
 rw[List.set_append_right _ _ (by simp),List.length_map,Nat.sub_self,List.map_append,List.append_assoc,List.length_append,List.length_singleton]
 obtain⟨m,hm⟩:∃m,d-xs.length=m+1:=⟨d-xs.length-1,by omega⟩
 rw[hm,List.replicate_succ,List.set_cons_zero,show d-(xs.length+1)=m by omega]
 rfl
theorem Zm9 {d:Nat}{xs:List ByteArray}(h:xs.length=d):ZfH d xs=xs.map Value.string:=by simp[ZfH,h]
theorem ZqY (d:Nat)(r:List ByteArray):(madeCells (Value.string ⟨#[]⟩).cells d).toList=ZfH d (ZcF ([].take 0) r):=by
 apply List.ext_getElem
 ·simp[madeCells,ZfH,ZcF]
 ·intro i h1 h2
  simp[madeCells,ZfH,ZcF,Value.cells,Nat.mod_one]
def ZqZ (os:List Int)(rs:List (List ByteArray))(w:World)(e:Ending)(w':World):Prop:=∃a c us ways,e=.returned (.slice a ways.length c)∧w'.ownsRow w.heap.size 54 1 (.slice a ways.length c) ways.length us∧Zax w.heap.size w' us ways∧Ext w w'∧ZcE os.length ways∧(∀x,x∈ways↔∃r∈rs,ZcF os r=x)∧ways.length≤rs.length
theorem Zk9 (lo pb ar:Nat)(rs:List (List ByteArray))(os:List Int)(ao:Option Addr)(d co:Nat)(w:World)(h:Zay w lo pb ar rs)(hn:rs.length≤1000000)(hr:∀r∈rs,r.length=ar)(har:ar≤64)(ho:ZdF w ao d os)(hv:∀c∈os,0≤c∧c<(ar:Int))(hd:d≤64):
  Calls Tryz.prog 150 #[.pointer (some ⟨pb,0,none⟩),.slice ao d co] w (ZqZ os rs w):=by
 obtain⟨i0,hi,hz0,hz1,hz2⟩:=info_parts Zcu
 obtain⟨j0,hj,yz0,yz1,yz2⟩:=info_parts ZbI
 refine(callsIn_wide (n:=5)).1 ?_
 refine callsIn_of_wp_marks Tryz.func150 rfl trivial ?_
 simp only[Tryz.ntmps150,List.size_toArray,List.length_cons,List.length_nil,Nat.reduceAdd,Nat.reduceSub,Array.replicate_succ,Array.replicate_zero,List.push_toArray,List.append_toArray,List.nil_append,List.cons_append]
 obtain⟨w1,hw1⟩:∃w1,w1=(w.alloc (.cells #[.slice ao d co] 161)).alloc (.cells #[.slice none 0 0] 50):=⟨_,rfl⟩
 have hE1:Ext w w1:=by rw[hw1];exact Zab (Zab (Below.refl _ w) _) _
 have EA:=zh (Ztc lo pb ar rs w1 (h.ext hE1) hn (fun r hr2=>by have:=hr r hr2;omega))
 have HR:=zh hr
 have HO:=zh ho
 have HV:=zh hv
 clear h hr ho hv
 gi_wp2_with (first
  |(refine ⟨trivial,?_⟩;gi_at_call 101;rw[←hw1];refine(callsIn_wide.2 EA.out).mono ?_;rintro e w2 ⟨bs,a2,c2,vs,rfl,hb1,hb2,hb3,hb4,hb5,hb6⟩))
 have sz1:w1.heap.size=w.heap.size+2:=by rw[hw1];simp
 have sz2:w.heap.size+2≤w2.heap.size:=by have:=hb6.size;omega
 have hbx0:Boxed w1 (w.heap.size+1) 50 (.slice none 0 0):=by
  have:=Boxed.new (w.alloc (.cells #[.slice ao d co] 161)) 50 (.slice none 0 0)
  rw[hw1]
  simpa using this
 have hbx:=ZcL hbx0 hb6
 have hco1:w1.cell? ⟨w.heap.size,0,none⟩=some (.slice ao d co):=by
  rw[hw1]
  exact Zac (Zab zbr _) (Boxed.new w 161 (.slice ao d co)).cell
 have HCO:=zh hco1
 have HE1:=zh hE1
 have h1v:∀v∈vs,∃a m c,v=Value.slice a m c:=fun v hv=>by
  obtain⟨k,hk⟩:=List.mem_iff_getElem?.1 hv
  have hkl:=(zgs hk).1
  obtain⟨r,hrr⟩:∃r,rs[k]? =some r:=⟨_,zge (by have:=hb5.1;omega)⟩
  obtain⟨a,c,e,_⟩:=Zag (hb5.2 k r v hrr hk)
  exact⟨a,_,c,e⟩
 have HW1:=zh hw1
 clear hw1 hbx0 hco1
 refine wpIn_rangeFunc_ownG (F:=Fence.wide) rfl (by omega) (gf:=125) (lb:=#[.pointer (some ⟨bs,0,none⟩)]) rfl trivial (enters_of Tryz.func125 (by kernel_rfl) rfl)
  (ZcK Fence.wide 4 trivial rfl (by omega) bs _ rs.length c2 a2 vs w2 hb4 h1v hn (fun b=>b=w.heap.size+1∨w2.heap.size≤b) (fun b e=>by have:=hb4.lt b e;omega) hb2 hb3) (fun h k=>h.trans k) (fun W l o o' hl _ _ _=>Zah.putObj W o' (.inr hl)) zbr (fun _=>rfl)
  (fun pre W=>Zc5 w2.heap.size (w.heap.size+1) ((ZaM rs pre).map (ZcF os)) W∧Zax w1.heap.size W vs rs∧w2.heap.size≤W.heap.size∧Below (w.heap.size+1) w1 W)
  (fun _ _ _=>False)
  ?own
  (fun _ _ _ _ _ hs _ _=>hs)
  ⟨⟨[],none,0,hbx,World.ownsRow_nil _ _ _ _,rfl,fun i r v h=>by simp[ZaM] at h⟩,hb5,Nat.le_refl _,hb6.mono (by omega)⟩
  (fun x=>{tmps:=#[.pointer (some ⟨pb,0,none⟩),.slice ao d co,undef,.pointer (some ⟨w.heap.size,0,none⟩),.slice none 0 0,.pointer (some ⟨w.heap.size+1,0,none⟩),vs[x.1]?.getD undef,undef,undef,undef,.pointer (some ⟨pb,0,none⟩),.func (.func 125) #[] #[.pointer (some ⟨bs,0,none⟩)],vs[x.1]?.getD undef,undef,undef,undef,undef,undef,undef,undef,undef,undef,undef,undef,undef,undef,undef,undef,undef,undef,undef,undef,undef,undef,undef,undef,undef,undef,undef],defers:=[]}) ?assign ?body ?done ?stop
 case own=>
  refine OwnFrom.and (Own.from (fun s A B row hs hg hr=>hs.keptN hg hr) _) (OwnFrom.and (Own.from (fun s A B row hs hg hr=>hs.keptN hg hr) _) (OwnFrom.and (fun s A B row hs hg hr=>Nat.le_trans hs hg.size) (ownFrom_below (by omega) (by omega))))
 case assign=>
  intro l x W K hK
  gi_wp2
  exact hK
 case body=>
  rintro l pre x W ⟨⟨us,a9,c9,bx9,row9,at9⟩,hvs,hsz,hE⟩ hlt
  obtain⟨r,hr1⟩:∃r,rs[x.1]? =some r:=⟨_,zge x.2⟩
  obtain⟨v,hv1⟩:∃v,vs[x.1]? =some v:=⟨_,zge (by rw[hvs.1];exact x.2)⟩
  have hrl:=HR.out r (zmg hr1)
  have ho1:=hvs.2 _ r v hr1 hv1
  obtain⟨a7,c7,rfl,_⟩:=Zag ho1
  have hpl:((ZaM rs pre).map (ZcF os)).length=pre.length:=by simp[ZaM]
  have hv2:vs[x.1]?.getD undef=.slice a7 r.length c7:=by rw[hv1];rfl
  rw[hv2]
  obtain⟨qs,hqs⟩:∃qs,(ZaM rs pre).map (ZcF os)=qs:=⟨_,rfl⟩
  have HQS:Hid ((ZaM rs (pre++[x])).map (ZcF os)=qs++[ZcF os r]):=by show _=_;rw[Zcl rs pre x hr1,List.map_append,hqs];rfl
  rw[hqs] at bx9 row9 at9 hpl
  have HST:=zh (ZaL ho1 (Za4 ho1).1)
  have hc9:=bx9.cell
  have hBW:=bx9.lt
  have VS:=zh hvs
  have hEW:Ext w W:=HE1.out.trans (hE.mono (by omega))
  have hco:W.cell? ⟨w.heap.size,0,none⟩=some (.slice ao d co):=by
   rw[hE.cell (p:=⟨w.heap.size,0,none⟩) (Nat.lt_succ_self _)]
   exact HCO.out
  have HOW:=zh (HO.out.keep hEW)
  have hod:os.length=d:=HO.out.2.1
  have hql:qs.length≤1000000:=by omega
  obtain⟨wm,hm,om,gm⟩:=run_make_full (P:=Tryz.prog) W W.heap.size 54 9 j0 (.string ⟨#[]⟩) 1 Tryz.underlying54 hj yz0 yz1 .i64 .i64 d (by rw[yz2];omega) (by unfold maxLen;omega) (Nat.le_refl _)
  have hEm:Ext W wm:=⟨gm.os,gm.tape,gm.output,gm.size,fun i hi=>gm.block i hi (by simp)⟩
  have hcom:=Zac hEm hco
  have HCO9:=zh (Zac hEm hc9)
  have HEm:=zh hEm
  have HOM:Hid (wm.ownsRow W.heap.size 9 1 (.slice (some ⟨W.heap.size,0,none⟩) d d) d (ZfH d (ZcF (os.take 0) r))):=by
   show World.ownsRow _ _ _ _ _ _ _
   have e:(madeCells (Value.string ⟨#[]⟩).cells (d*1)).toList=ZfH d (ZcF (os.take 0) r):=by
    rw[Nat.mul_one]
    exact ZqY _ _
   rw[←e]
   exact om
  clear hv2 hqs hvs hpl om hEm gm
  gi_wp2
  gi_loopw [18] (fun v18 wj=>∃k:Nat,k≤d∧v18=.int .i64 (k:Int)∧wj.ownsRow W.heap.size 9 1 (.slice (some ⟨W.heap.size,0,none⟩) d d) d (ZfH d (ZcF (os.take k) r))∧Ext W wj) (fun v18 _=>d-(intOf v18).toNat)
  case atStart=>exact⟨0,by omega,rfl,HOM.out,HEm.out⟩
  case round=>
   obtain⟨k,hk,rfl,hown,hEj⟩:=hrel
   have HOJ:=zh hown
   have HEJ:=zh hEj
   clear hown hEj
   have hpk:(ZcF (os.take k) r).length=k:=by rw[Zht,List.length_take];omega
   have HPK:=zh hpk
   by_cases hlt:k<d
   ·have hki:(k:Int)<(d:Int):=by omega
    obtain⟨c,b1,o1,hx,rfl,h1⟩:=(HOW.out.keep HEJ.out).2.at hlt
    obtain⟨hc0,hc1⟩:=HV.out c (zmg hx)
    obtain⟨m,rfl⟩:∃m:Nat,c=(m:Int):=⟨c.toNat,by omega⟩
    have HX:=zh hx
    have g1:wr.cell? ⟨b1,o1+k,none⟩=some (.int .i64 (m:Int)):=by simpa [Zk5] using h1
    clear hx h1
    obtain⟨t,b2,o2,ht,rfl,h2⟩:=(HST.out.keep HEJ.out).2.at (i:=m) (by omega)
    have HT:=zh ht
    have g2:wr.cell? ⟨b2,o2+m,none⟩=some (.string t):=by simpa [Zdg] using h2
    clear ht h2
    have g3:wr.cell? ⟨W.heap.size,k,none⟩=some (.string ⟨#[]⟩):=by
     have:=HOJ.out.cells (g:=W.heap.size) rfl k (.string ⟨#[]⟩) (by
      unfold ZfH
      rw[List.getElem?_append_right (by rw[List.length_map,hpk];exact Nat.le_refl _),List.length_map,hpk,Nat.sub_self,List.getElem?_replicate,if_pos (by omega)])
     rwa [Addr.add_lit,Nat.zero_add] at this
    have g4:wr.frozen? ⟨W.heap.size,k,none⟩=false:=HOJ.out.frozenAt _
    clear hpk
    gi_wp2
    go_roundw
    case rel=>
     have s1:=(HOJ.out.stored k (.string t)).1
     have e:(ZfH d (ZcF (os.take k) r)).set k (.string t)=ZfH d (ZcF (os.take (k+1)) r):=by
      rw[Zm8 HX.out r HT.out,←Zpp (by rw[HPK.out];exact hlt),HPK.out]
     rw[e] at s1
     exact⟨k+1,by omega,by go_num,s1,HEJ.out.setCell (Nat.le_refl _) _⟩
    case measure=>simp[intOf];omega
   ·obtain rfl:k=d:=by omega
    have hge:¬(k:Int)<(k:Int):=by omega
    have bxW:=ZcL bx9 HEJ.out
    have hc10:=bxW.cell
    have HROW:=zh ((Zar row9 HEJ.out).alloc (.cells #[.slice (some ⟨W.heap.size,0,none⟩) k k] 54))
    have HOJ2:Hid (wr.ownsRow W.heap.size 9 1 (.slice (some ⟨W.heap.size,0,none⟩) k k) (ZcF os r).length ((ZcF os r).map Value.string)):=by
     have h2:=HOJ.out
     rw[Zm9 HPK.out] at h2
     have e:os.take k=os:=List.take_of_length_le (by omega)
     rw[e] at h2
     show World.ownsRow _ _ _ _ _ _ _
     rw[Zht,hod]
     exact h2
    have n3:=cell_one_new wr (.slice (some ⟨W.heap.size,0,none⟩) k k) 54
    have hsz2:=HEJ.out.size
    gi_wp2_with (gi_at_builtin;refine wpListIn_append_own _ rfl _ _ 50 rfl w2.heap.size 54 i0 (.slice none 0 0) 1 24 Tryz.underlying50 hi hz0 hz1 hz2 rfl (by decide) (.slice a9 qs.length c9) qs.length us rfl HROW.out ⟨wr.heap.size,0,none⟩ 1 1 [.slice (some ⟨W.heap.size,0,none⟩) k k] rfl rfl n3 (by simp[Value.oneCell']) (by unfold maxLen;omega) (by omega) (by simp;omega) ?_;intro v' w1' hown' hgrow _;obtain⟨g',cap',rfl⟩:=ownsRow_succ hown';obtain⟨p1,p2,p3,p4,p5,p6⟩:=Zc5.push (n0:=w.heap.size+1) bxW (Zar row9 HEJ.out) (at9.ext HEJ.out) (Zao HOJ2.out hsz) hown' hgrow (by omega) (Nat.le_refl _) (by omega);have hc1:=p1.cell;have hf1:=p1.frozen)
    exact⟨((KeepsOthers.ext HEJ.out).trans p3).from _,((Zah.refl _ W).ext HEJ.out).trans p5,by rw[HQS.out];exact p2,p6 _ _ _ (sz1 ▸ VS.out.ext HEJ.out),by have:=p5.size;omega,hE.trans ((HEJ.out.mono (by have:=hE.size;omega)).trans p4)⟩
 case done=>
  rintro D ys W hD rfl ⟨⟨us,a9,c9,bx9,row9,at9⟩,hvs,hsz,hE⟩ hK
  rw[ZdD rs (Nat.le_refl _),List.take_length] at bx9 row9 at9
  rw[List.length_map] at bx9 row9
  have hc9:=bx9.cell
  obtain⟨wz,hwz⟩:∃wz,rs.map (ZcF os)=wz:=⟨_,rfl⟩
  have HWZ:=zh hwz
  rw[hwz] at at9
  have HR9:=zh row9
  have SO:=zh (Zuy w2.heap.size a9 rs.length c9 us wz W row9 at9 hn)
  have CO:Hid (∀us3 ws3 w3,w3.ownsRow w2.heap.size 54 1 (.slice a9 rs.length c9) rs.length us3→Zax w2.heap.size w3 us3 ws3→Calls Tryz.prog 181 #[.slice a9 rs.length c9,.func (.func 182) #[] #[]] w3 (ZcW w2.heap.size a9 rs.length c9 ws3 w3)):=fun us3 ws3 w3 h1 h2=>Zpk w2.heap.size a9 rs.length c9 us3 ws3 w3 h1 h2 hn
  have keepB:∀w3,Zah (fun b=>(Value.slice a9 rs.length c9).ownBlock=some b) W w3→w3.cell? ⟨w.heap.size+1,0,none⟩=some (.slice a9 rs.length c9):=fun w3 h=>h.cell (fun e=>bx9.not_row (by decide) row9 e.symm) hc9
  have KB:=zh keepB
  clear hwz at9 row9 keepB
  gi_wp2_with (first
   |(refine ⟨trivial,?_⟩;gi_at_call 179;refine(callsIn_wide.2 SO.out).mono ?_;rintro e w3 ⟨rfl,us3,ws3,r3,at3,pm3,so3,b3⟩;have hc3:=KB.out _ b3)
   |(refine ⟨trivial,?_⟩;gi_at_call 181;refine(callsIn_wide.2 (CO.out _ _ _ r3 at3)).mono ?_;rintro e w4 ⟨us4,rfl,r4,at4,b4⟩))
  have hD3:∀{w5 w6:World} {us5:List Value} {m:Nat},w5.heap[D]? =some (.deferred (some []))→w5.ownsRow w2.heap.size 54 1 (.slice a9 m c9) m us5→Zah (fun b=>(Value.slice a9 m c9).ownBlock=some b) w5 w6→w6.heap[D]? =some (.deferred (some [])):=fun {w5 w6 us5 m} h1 h2 h3=>by
   rw[←h1]
   refine h3.block D (zag h1).1 fun e=>?_
   rcases h2.2 with⟨e1,_⟩|⟨g,c',cur,e1,_,hg,_⟩
   ·cases e1
    cases e
   ·cases e1
    cases e
    rw[hg] at h1
    cases h1
  have hK4:=hD3 (hD3 hK HR9.out b3) r3 b4
  have hg:=grownBy_putObj' w4 D (.deferred none)
  have hr4:∀r,some D=some r→∃o:Obj,w4.heap[r]? =some o∧o.isCells=false:=fun r e=>by cases e;exact⟨_,hK4,rfl⟩
  have at10:=at4.keptN hg hr4
  have eW:Ext w W:=HE1.out.trans (hE.mono (by omega))
  obtain⟨m1,m2⟩:=Zpj ws3 so3
  have hmem:∀x,x∈Zej ws3↔∃r∈rs,ZcF os r=x:=fun x=>by
   rw[m2,pm3.mem_iff,←HWZ.out,List.mem_map]
  have hlen:(Zej ws3).length≤rs.length:=by
   have h1:=ZqT ws3
   rw[pm3.length_eq,←HWZ.out,List.length_map] at h1
   exact h1
  have hbut:Zah (fun b=>w2.heap.size≤b) W (w4.putObj D (.deferred none)):=((b3.trans b4).mono (fun b _ e=>(HR9.out.lt b e).1)).trans (Zah.putObj w4 _ hD)
  have eF:Ext w (w4.putObj D (.deferred none)):=Zaw eW hbut (fun b hb=>by omega)
  refine⟨by simp,.inl ⟨_,_,rfl,run_takeDeferred hK4,?_⟩⟩
  exact⟨_,results_tmp rfl _ _ _,a9,c9,us4,Zej ws3,rfl,Zao (ZdC r4 hg hr4) (by omega),⟨at10.1,fun i r v h1 h2=>Zao (at10.2 i r v h1 h2) (by omega)⟩,eF,⟨m1,fun x hx=>by obtain⟨r,_,rfl⟩:=(hmem x).1 hx;exact Zht os r⟩,hmem,hlen⟩
 case stop=>
  rintro D c pre W _ _ h _
  exact h.elim
structure Lev where
 kv:Value
 fv:Value
 ks:List ByteArray
 fs:List Int
def Zkd (l:Lev):List Value:=[l.kv,l.fv]
structure ZdH (lo:Nat)(w:World)(g:Nat)(ls:List Lev):Prop where
 row:w.ownsRow lo 226 2 (.slice (some ⟨g,0,none⟩) ls.length ls.length) ls.length (ls.flatMap Zkd)
 ks:∀(i:Nat) (l:Lev),ls[i]? =some l→w.ownsRow lo 9 1 l.kv l.ks.length (l.ks.map Value.string)
 fs:∀(i:Nat) (l:Lev),ls[i]? =some l→w.ownsRow lo 3 1 l.fv l.fs.length (l.fs.map Zm6)
 kd:∀(i j:Nat) (a b:Lev),i≠j→ls[i]? =some a→ls[j]? =some b→a.kv.ownBlock=none∨a.kv.ownBlock≠b.kv.ownBlock
 fd:∀(i j:Nat) (a b:Lev),i≠j→ls[i]? =some a→ls[j]? =some b→a.fv.ownBlock=none∨a.fv.ownBlock≠b.fv.ownBlock
theorem Zmd (ls:List Lev)(i:Nat)(l l':Lev)(j:Nat)(v:Value)(hl:ls[i]? =some l)(hj:j<2)(hv:Zkd l'=(Zkd l).set j v):(ls.flatMap Zkd).set (i*2+j) v=(ls.set i l').flatMap Zkd:=by
 induction ls generalizing i with
 |nil=>cases hl
 |cons a ls ih=>
  cases i with
  |zero=>
   rw[List.getElem?_cons_zero] at hl
   cases hl
   rw[List.set_cons_zero,List.flatMap_cons,List.flatMap_cons,Nat.zero_mul,Nat.zero_add,List.set_append_left _ _ (by simp[Zkd];omega),hv]
  |succ i=>
   rw[List.getElem?_cons_succ] at hl
   rw[List.set_cons_succ,List.flatMap_cons,List.flatMap_cons,List.set_append_right _ _ (by simp[Zkd];omega),←ih i hl]
   congr 1
   simp only[Zkd,List.length_cons,List.length_nil]
   rw[show (i+1)*2+j-(0+1+1)=i*2+j by omega]
theorem Zla (ls:List Lev)(i:Nat)(l:Lev)(hl:ls[i]? =some l):(ls.flatMap Zkd)[i*2]? =some l.kv∧(ls.flatMap Zkd)[i*2+1]? =some l.fv:=by
 induction ls generalizing i with
 |nil=>cases hl
 |cons a ls ih=>
  cases i with
  |zero=>
   rw[List.getElem?_cons_zero] at hl
   cases hl
   simp[Zkd]
  |succ i=>
   rw[List.getElem?_cons_succ] at hl
   obtain⟨h1,h2⟩:=ih i hl
   rw[List.flatMap_cons,List.getElem?_append_right (by simp[Zkd];omega),List.getElem?_append_right (by simp[Zkd];omega)]
   simp only[Zkd,List.length_cons,List.length_nil]
   rw[show (i+1)*2-(0+1+1)=i*2 by omega,show (i+1)*2+1-(0+1+1)=i*2+1 by omega]
   exact⟨h1,h2⟩
theorem ZdH.cell {lo:Nat}{w:World}{g:Nat}{ls:List Lev}(h:ZdH lo w g ls){i:Nat}{l:Lev}(hl:ls[i]? =some l):w.cell? ⟨g,i*2,none⟩=some l.kv∧w.cell? ⟨g,i*2+1,none⟩=some l.fv:=by
 obtain⟨h1,h2⟩:=Zla ls i l hl
 have c1:=h.row.cells (g:=g) rfl _ _ h1
 have c2:=h.row.cells (g:=g) rfl _ _ h2
 rw[Addr.add_lit,Nat.zero_add] at c1 c2
 exact⟨c1,c2⟩
theorem ZdH.ext {lo:Nat}{w w':World}{g:Nat}{ls:List Lev}(h:ZdH lo w g ls)(e:Ext w w'):ZdH lo w' g ls:=⟨Zar h.row e,fun i l hl=>Zar (h.ks i l hl) e,fun i l hl=>Zar (h.fs i l hl) e,h.kd,h.fd⟩
theorem Zme {w:World}{base n size:Nat}{e:TypeId}{v:Value}{xs:List Value}(h:w.ownsRow base e size v n xs){b:Nat}(hb:v.ownBlock=some b):b<w.heap.size:=(h.lt b hb).2
theorem Lev.get_set {ls:List Lev}{i j:Nat}{l' a:Lev}(h:(ls.set i l')[j]? =some a):j=i∧a=l'∨j≠i∧ls[j]? =some a:=by
 by_cases e:i=j
 ·subst e
  have:=(zgs h).1
  rw[List.length_set] at this
  rw[List.getElem?_set_self this] at h
  cases h
  exact .inl ⟨rfl,rfl⟩
 ·rw[List.getElem?_set_ne e] at h
  exact .inr ⟨fun e2=>e e2.symm,h⟩
theorem ZdH.pushK {lo:Nat}{w w1:World}{g:Nat}{ls:List Lev}(h:ZdH lo w g ls){i:Nat}{l:Lev}(hl:ls[i]? =some l){o:Obj}{v':Value}{t:ByteArray}
  (r1:w1.ownsRow lo 9 1 v' (l.ks.length+1) (l.ks.map Value.string++[Value.string t])) (r2:(w.alloc o).grownBy w1 l.kv.ownBlock) (r3:∀b,v'.ownBlock=some b→l.kv.ownBlock=some b∨b=(w.alloc o).heap.size):
  w1.cell? ⟨g,i*2+0,none⟩=some l.kv∧w1.frozen? ⟨g,i*2+0,none⟩=false∧ZdH lo (w1.setCell ⟨g,i*2+0,none⟩ v') g (ls.set i {l with kv:=v',ks:=l.ks++[t]})∧Zah (fun b=>lo≤b) w (w1.setCell ⟨g,i*2+0,none⟩ v'):=by
 have hrow1:=(h.row.alloc o).kept r2 (ZaK (h.row.alloc o) ((h.ks i l hl).alloc o) (by decide))
 obtain⟨hs1,hs2⟩:=hrow1.stored (i*2+0) v'
 have hgl:lo≤g:=(h.row.lt g rfl).1
 have alc:(w.alloc o).heap.size=w.heap.size+1:=by simp
 have hcell:w1.cell? ⟨g,i*2+0,none⟩=some l.kv:=by
  have:=hrow1.cells (g:=g) rfl _ _ (Zla ls i l hl).1
  rwa [Addr.add_lit,Nat.zero_add] at this
 have other:∀{e:TypeId} {v:Value} {n:Nat} {xs:List Value},w1.ownsRow lo e 1 v n xs→e≠226→(w1.setCell ⟨g,i*2+0,none⟩ v').ownsRow lo e 1 v n xs:=fun hh hne=>Zam (a:=⟨g,i*2+0,none⟩) hh (ZaK hh hrow1 hne) _
 have e1:=Zmd ls i l {l with kv:=v',ks:=l.ks++[t]} 0 v' hl (by omega) rfl
 refine⟨hcell,hrow1.frozenAt _,⟨?_,fun j a ha=>?_,fun j a ha=>?_,fun j k a b hjk ha hb=>?_,fun j k a b hjk ha hb=>?_⟩,?_⟩
 ·rw[←e1,List.length_set]
  exact hs1
 ·rcases Lev.get_set ha with⟨rfl,rfl⟩|⟨hne,ha⟩
  ·refine other ?_ (by decide)
   show w1.ownsRow lo 9 1 v' (l.ks++[t]).length ((l.ks++[t]).map Value.string)
   rw[List.length_append,List.map_append]
   exact r1
  ·exact other (((h.ks j a ha).alloc o).kept r2 (h.kd j i a l hne ha hl)) (by decide)
 ·rcases Lev.get_set ha with⟨rfl,rfl⟩|⟨hne,ha⟩
  ·exact other (((h.fs j l hl).alloc o).kept r2 (ZaK ((h.fs j l hl).alloc o) ((h.ks j l hl).alloc o) (by decide))) (by decide)
  ·exact other (((h.fs j a ha).alloc o).kept r2 (ZaK ((h.fs j a ha).alloc o) ((h.ks i l hl).alloc o) (by decide))) (by decide)
 ·rcases Lev.get_set ha with⟨rfl,rfl⟩|⟨hne,ha2⟩ <;> rcases Lev.get_set hb with⟨rfl,rfl⟩|⟨hne2,hb2⟩
  ·exact absurd rfl hjk
  ·show v'.ownBlock=none∨v'.ownBlock≠b.kv.ownBlock
   cases hv:v'.ownBlock with
   |none=>exact .inl rfl
   |some x=>
    refine .inr fun e=>?_
    rcases r3 x hv with r|r
    ·rcases h.kd j k l b hjk hl hb2 with q|q
     ·rw[q] at r
      cases r
     ·exact q (r.trans e)
    ·have:=Zme (h.ks k b hb2) e.symm
     omega
  ·show a.kv.ownBlock=none∨a.kv.ownBlock≠v'.ownBlock
   cases hv:a.kv.ownBlock with
   |none=>exact .inl rfl
   |some x=>
    refine .inr fun e=>?_
    rcases r3 x e.symm with r|r
    ·rcases h.kd j k a l hjk ha2 hl with q|q
     ·rw[q] at hv
      cases hv
     ·exact q (hv.trans r.symm)
    ·have:=Zme (h.ks j a ha2) hv
     omega
  ·exact h.kd j k a b hjk ha2 hb2
 ·rcases Lev.get_set ha with⟨rfl,rfl⟩|⟨hne,ha2⟩ <;> rcases Lev.get_set hb with⟨rfl,rfl⟩|⟨hne2,hb2⟩
  ·exact absurd rfl hjk
  ·exact h.fd j k l b hjk hl hb2
  ·exact h.fd j k a l hjk ha2 hl
  ·exact h.fd j k a b hjk ha2 hb2
 ·exact(((Zah.refl _ w).alloc o).grown r2 (fun b e=>.inl (h.ks i l hl |>.lt b e).1)).set (.inl hgl) _ _
theorem ZdH.pushF {lo:Nat}{w w1:World}{g:Nat}{ls:List Lev}(h:ZdH lo w g ls){i:Nat}{l:Lev}(hl:ls[i]? =some l){o:Obj}{v':Value}{t:Int}
  (r1:w1.ownsRow lo 3 1 v' (l.fs.length+1) (l.fs.map Zm6++[Zm6 t])) (r2:(w.alloc o).grownBy w1 l.fv.ownBlock) (r3:∀b,v'.ownBlock=some b→l.fv.ownBlock=some b∨b=(w.alloc o).heap.size):
  w1.cell? ⟨g,i*2+1,none⟩=some l.fv∧w1.frozen? ⟨g,i*2+1,none⟩=false∧ZdH lo (w1.setCell ⟨g,i*2+1,none⟩ v') g (ls.set i {l with fv:=v',fs:=l.fs++[t]})∧Zah (fun b=>lo≤b) w (w1.setCell ⟨g,i*2+1,none⟩ v'):=by
 have hrow1:=(h.row.alloc o).kept r2 (ZaK (h.row.alloc o) ((h.fs i l hl).alloc o) (by decide))
 obtain⟨hs1,hs2⟩:=hrow1.stored (i*2+1) v'
 have hgl:lo≤g:=(h.row.lt g rfl).1
 have alc:(w.alloc o).heap.size=w.heap.size+1:=by simp
 have hcell:w1.cell? ⟨g,i*2+1,none⟩=some l.fv:=by
  have:=hrow1.cells (g:=g) rfl _ _ (Zla ls i l hl).2
  rwa [Addr.add_lit,Nat.zero_add] at this
 have other:∀{e:TypeId} {v:Value} {n:Nat} {xs:List Value},w1.ownsRow lo e 1 v n xs→e≠226→(w1.setCell ⟨g,i*2+1,none⟩ v').ownsRow lo e 1 v n xs:=fun hh hne=>Zam (a:=⟨g,i*2+1,none⟩) hh (ZaK hh hrow1 hne) _
 have e1:=Zmd ls i l {l with fv:=v',fs:=l.fs++[t]} 1 v' hl (by omega) rfl
 refine⟨hcell,hrow1.frozenAt _,⟨?_,fun j a ha=>?_,fun j a ha=>?_,fun j k a b hjk ha hb=>?_,fun j k a b hjk ha hb=>?_⟩,?_⟩
 ·rw[←e1,List.length_set]
  exact hs1
 ·rcases Lev.get_set ha with⟨rfl,rfl⟩|⟨hne,ha⟩
  ·exact other (((h.ks j l hl).alloc o).kept r2 (ZaK ((h.ks j l hl).alloc o) ((h.fs j l hl).alloc o) (by decide))) (by decide)
  ·exact other (((h.ks j a ha).alloc o).kept r2 (ZaK ((h.ks j a ha).alloc o) ((h.fs i l hl).alloc o) (by decide))) (by decide)
 ·rcases Lev.get_set ha with⟨rfl,rfl⟩|⟨hne,ha⟩
  ·refine other ?_ (by decide)
   show w1.ownsRow lo 3 1 v' (l.fs++[t]).length ((l.fs++[t]).map Zm6)
   rw[List.length_append,List.map_append]
   exact r1
  ·exact other (((h.fs j a ha).alloc o).kept r2 (h.fd j i a l hne ha hl)) (by decide)
 ·rcases Lev.get_set ha with⟨rfl,rfl⟩|⟨hne,ha2⟩ <;> rcases Lev.get_set hb with⟨rfl,rfl⟩|⟨hne2,hb2⟩
  ·exact absurd rfl hjk
  ·exact h.kd j k l b hjk hl hb2
  ·exact h.kd j k a l hjk ha2 hl
  ·exact h.kd j k a b hjk ha2 hb2
 ·rcases Lev.get_set ha with⟨rfl,rfl⟩|⟨hne,ha2⟩ <;> rcases Lev.get_set hb with⟨rfl,rfl⟩|⟨hne2,hb2⟩
  ·exact absurd rfl hjk
  ·show v'.ownBlock=none∨v'.ownBlock≠b.fv.ownBlock
   cases hv:v'.ownBlock with
   |none=>exact .inl rfl
   |some x=>
    refine .inr fun e=>?_
    rcases r3 x hv with r|r
    ·rcases h.fd j k l b hjk hl hb2 with q|q
     ·rw[q] at r
      cases r
     ·exact q (r.trans e)
    ·have:=Zme (h.fs k b hb2) e.symm
     omega
  ·show a.fv.ownBlock=none∨a.fv.ownBlock≠v'.ownBlock
   cases hv:a.fv.ownBlock with
   |none=>exact .inl rfl
   |some x=>
    refine .inr fun e=>?_
    rcases r3 x e.symm with r|r
    ·rcases h.fd j k a l hjk ha2 hl with q|q
     ·rw[q] at hv
      cases hv
     ·exact q (hv.trans r.symm)
    ·have:=Zme (h.fs j a ha2) hv
     omega
  ·exact h.fd j k a b hjk ha2 hb2
 ·exact(((Zah.refl _ w).alloc o).grown r2 (fun b e=>.inl (h.fs i l hl |>.lt b e).1)).set (.inl hgl) _ _
