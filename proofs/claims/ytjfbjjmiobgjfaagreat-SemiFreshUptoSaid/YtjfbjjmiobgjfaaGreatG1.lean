/- Lists of texts; the walks of the law's texts, cmp.Compare at texts, slices.Compare at lists of texts. -/
import Derived.Test.YtjfbjjmiobgjfaaGreatG0
set_option maxRecDepth 100000
set_option maxHeartbeats 8000000
namespace Go.Proofs.YtjfbjjmiobgjfaaGreat
open ChangeShapes WideShapes ChangeAt RowKit
def Zdg (w:World)(b o:Nat)(x:ByteArray):Prop:=w.cell? ⟨b,o,none⟩=some (.string x)
def Zai (w:World)(a:Option Addr)(n:Nat)(xs:List ByteArray):Prop:=n≤maxLen∧Zce Zdg 1 w a n xs
theorem Zai.keep {W w:World}(hb:Ext W w){a:Option Addr}{n:Nat}{xs:List ByteArray}(h:Zai W a n xs):Zai w a n xs:=⟨h.1,h.2.keep fun _ _ _=>YtjfbjjmiobgjfaaGreat.Zac hb⟩
theorem Zi5 {xs ys:List ByteArray}{k:Nat}{x y:ByteArray}(hx:xs[k]? =some x)(hy:ys[k]? =some y)(h:xs.take k=ys.take k)(hxy:x=y):xs.take (k+1)=ys.take (k+1):=by
 rw[ZaA hx,ZaA hy,h,hxy]
def ltB (a b:ByteArray):Bool:=Op.bytesLess a.toList b.toList
def ZfI (a b:ByteArray):Int:=if ltB a b=true then -1 else if a=b then 0 else 1
theorem ZrN (a b:ByteArray)(w:World):Calls Tryz.prog 90 #[.string a,.string b] w fun e w'=>e=.returned (.int .i64 (ZfI a b))∧w'=w:=by
 obtain⟨p,hp⟩:∃p,Op.bytesLess a.toList b.toList=p:=⟨_,rfl⟩
 obtain⟨q,hq⟩:∃q,(a.toList==b.toList)=q:=⟨_,rfl⟩
 have HC:Hid (ZfI a b=if p=true then -1 else if q=true then 0 else 1):=by
  show _=_
  rw[Zbr] at hq
  unfold ZfI ltB
  rw[hp,←hq]
  simp
 have ea:(a.toList==a.toList)=true:=by simp
 have eb:(b.toList==b.toList)=true:=by simp
 cases p with
 |true=>
  go_enter Tryz.func90,Tryz.ntmps90
  go_wp2
  go_returns
  exact⟨by rw[HC.out];rfl,rfl⟩
 |false=>
  cases q with
  |true=>
   go_enter Tryz.func90,Tryz.ntmps90
   go_wp2
   go_returns
   exact⟨by rw[HC.out];rfl,rfl⟩
  |false=>
   go_enter Tryz.func90,Tryz.ntmps90
   go_wp2
   go_returns
   exact⟨by rw[HC.out];rfl,rfl⟩
def Zaj:List ByteArray→List ByteArray→Int
 |[],[]=>0
 |[],_::_=> -1
 |_::_,[]=>1
 |x::xs,y::ys=>if ZfI x y≠0 then ZfI x y else Zaj xs ys
theorem Zkf (ys:List ByteArray):Zaj [] ys=if 0<ys.length then -1 else 0:=by
 cases ys <;> simp[Zaj]
theorem ZhJ (xs ys:List ByteArray)(aa:Option Addr)(n cap:Nat)(ab:Option Addr)(m cb:Nat)(w:World)(ha:Zai w aa n xs)(hb:Zai w ab m ys):
  Calls Tryz.prog 100 #[.slice aa n cap,.slice ab m cb] w fun e w'=>e=.returned (.int .i64 (Zaj xs ys))∧w'=w:=by
 have HA:=zh ha
 have HB:=zh hb
 have HL:=zh ha.2.1
 have HM:=zh hb.2.1
 have hn:n≤9223372036854775807:=ha.1
 have hm:m≤9223372036854775807:=hb.1
 clear ha hb
 obtain⟨R,hR⟩:∃R,R=Zaj xs ys:=⟨_,rfl⟩
 rw[←hR]
 have FIN:=zh hR
 clear hR
 go_enter Tryz.func100,Tryz.ntmps100
 go_wp2
 go_loopw [11] (fun i wj=>∃k:Nat,k≤n∧k≤m∧i=.int .i64 (k:Int)∧wj=w∧R=Zaj (xs.drop k) (ys.drop k)) (fun i _=>n-(intOf i).toNat)
 case atStart=>exact⟨0,by omega,by omega,rfl,rfl,by rw[FIN.out,List.drop_zero,List.drop_zero]⟩
 case round=>
  obtain⟨k,hk,hkm,rfl,rfl,hq⟩:=hrel
  have HQ:=zh hq
  clear hq
  by_cases hlt:k<n
  ·have hki:(k:Int)<(n:Int):=by omega
   obtain⟨x,b1,o1,hx,rfl,h1⟩:=HA.out.2.at hlt
   have HX:=zh hx
   have g1:wr.cell? ⟨b1,o1+k,none⟩=some (.string x):=by simpa [Zdg] using h1
   clear hx h1
   by_cases hlm:k<m
   ·have hkmi:(k:Int)<(m:Int):=by omega
    have hnm:¬(m:Int)≤(k:Int):=by omega
    obtain⟨y,b2,o2,hy,rfl,h2⟩:=HB.out.2.at hlm
    have HY:=zh hy
    have g2:wr.cell? ⟨b2,o2+k,none⟩=some (.string y):=by simpa [Zdg] using h2
    clear hy h2
    obtain⟨C,hC⟩:∃C,ZfI x y=C:=⟨_,rfl⟩
    have HC:=zh hC
    have HST:Hid (R=if C≠0 then C else Zaj (xs.drop (k+1)) (ys.drop (k+1))):=by
     show _=_
     rw[HQ.out,Zbn HX.out,Zbn HY.out,Zaj,hC]
    clear hC
    by_cases h0:C=0
    ·subst h0
     go_wp2_with (go_at_call 90;(with_reducible refine(ZrN x y _).mono ?_);rw[HC.out];rintro e w1 ⟨rfl,hw1⟩;obtain rfl:=hw1.symm)
     go_roundw
     case rel=>exact⟨k+1,by omega,by omega,by go_num,by first|trivial|rfl,by rw[HST.out];rfl⟩
     case measure=>simp[intOf];omega
    ·have t1:(C != 0)=true:=by simpa using h0
     have H0:=zh h0
     clear h0
     go_wp2_with (go_at_call 90;(with_reducible refine(ZrN x y _).mono ?_);rw[HC.out];rintro e w1 ⟨rfl,hw1⟩;obtain rfl:=hw1.symm)
     go_returns
     exact⟨by rw[HST.out,if_pos H0.out];rfl,rfl⟩
   ·obtain rfl:k=m:=by omega
    have hnm:(k:Int)≤(k:Int):=Int.le_refl _
    go_wp2
    go_returns
    exact⟨by rw[HQ.out,Zbn HX.out,List.drop_of_length_le (l:=ys) (by have:=HM.out;omega)];rfl,rfl⟩
  ·obtain rfl:k=n:=by omega
   have hge:¬(k:Int)<(k:Int):=by omega
   obtain⟨q,hq⟩:∃q,decide ((k:Int)<(m:Int))=q:=⟨_,rfl⟩
   have HE:Hid (R=if q=true then -1 else 0):=by
    show _=_
    rw[HQ.out,List.drop_of_length_le (l:=xs) (by have:=HL.out;omega),Zkf,List.length_drop,HM.out,←hq]
    by_cases h:k<m
    ·rw[if_pos (by omega),if_pos (by simpa using h)]
    ·rw[if_neg (by omega),if_neg (by simpa using h)]
   cases q with
   |true=>
    have h5:(k:Int)<(m:Int):=by simpa using hq
    clear hq
    go_wp2
    go_returns
    exact⟨by rw[HE.out];rfl,rfl⟩
   |false=>
    have h5:¬(k:Int)<(m:Int):=by simpa using hq
    clear hq
    go_wp2
    go_returns
    exact⟨by rw[HE.out];rfl,rfl⟩
theorem Zmj (xs ys:List ByteArray)(aa:Option Addr)(n cap:Nat)(ab:Option Addr)(m cb:Nat)(w:World)(ha:Zai w aa n xs)(hb:Zai w ab m ys):
  Calls Tryz.prog 60 #[.slice aa n cap,.slice ab m cb] w fun e w'=>e=.returned (.int .i64 (Zaj xs ys))∧w'=w:=by
 have HA:=zh ha
 have HB:=zh hb
 clear ha hb
 go_enter Tryz.func60,Tryz.ntmps60
 go_wp2_with (go_at_call 100;(with_reducible refine(ZhJ xs ys _ _ _ _ _ _ _ HA.out HB.out).mono ?_);rintro e w1 ⟨rfl,hw1⟩;obtain rfl:=hw1.symm)
 go_returns
 exact⟨rfl,rfl⟩
def Znh (w:World)(b o:Nat)(r:List ByteArray):Prop:=∃(a:Option Addr) (n c:Nat),w.cell? ⟨b,o,none⟩=some (.slice a n c)∧Zai w a n r
theorem Znh.keep {W w:World}(hb:Ext W w){b o:Nat}{r:List ByteArray}(h:Znh W b o r):Znh w b o r:=by
 obtain⟨a,n,c,h1,h2⟩:=h
 exact⟨a,n,c,YtjfbjjmiobgjfaaGreat.Zac hb h1,h2.keep hb⟩
def Zcp (w:World)(a:Option Addr)(n:Nat)(rs:List (List ByteArray)):Prop:=n≤maxLen∧Zce Znh 1 w a n rs
theorem Zcp.keep {W w:World}(hb:Ext W w){a:Option Addr}{n:Nat}{rs:List (List ByteArray)}(h:Zcp W a n rs):Zcp w a n rs:=⟨h.1,h.2.keep fun _ _ _=>Znh.keep hb⟩
abbrev Zlh:Value:=.func (.func 60) #[] #[]
theorem Zni (w:World):(binOp .eql 96 (.func (.func 60) #[] #[]) .nilFunc).run Tryz.prog w=.ok (.bool false) w:=by kernel_rfl
theorem Znj (xs ys:List ByteArray)(pb:Nat)(aa:Option Addr)(n cap:Nat)(ab:Option Addr)(m cb:Nat)(w:World)(hp:w.cell? ⟨pb,0,none⟩=some Zlh)(ha:Zai w aa n xs)(hb:Zai w ab m ys):
  Calls Tryz.prog 142 #[.pointer (some ⟨pb,0,none⟩),.slice aa n cap,.slice ab m cb] w fun e w'=>e=.returned (.int .i64 (Zaj xs ys))∧w'=w:=by
 have HA:=zh ha
 have HB:=zh hb
 clear ha hb
 have eqf:=Zni
 go_enter Tryz.func142,Tryz.ntmps142
 go_wp2_with (go_at_call 60;(with_reducible refine(Zmj xs ys _ _ _ _ _ _ _ HA.out HB.out).mono ?_);rintro e w1 ⟨rfl,hw1⟩;obtain rfl:=hw1.symm)
 go_returns
 exact⟨rfl,rfl⟩
def ZdK (rs:List (List ByteArray))(t:List ByteArray):Nat:=(rs.takeWhile fun r=>decide (Zaj r t<0)).length
def ZaX (rs:List (List ByteArray))(t:List ByteArray):Bool:=match rs[ZdK rs t]? with
 |some r=>decide (Zaj r t=0)
 |none=>false
theorem Ze2 {α:Type}(p:α→Bool)(l:List α)(i:Nat)(h1:∀k x,k<i→l[k]? =some x→p x=true)(h2:∀x,l[i]? =some x→p x=false)(hi:i≤l.length):(l.takeWhile p).length=i:=by
 induction l generalizing i with
 |nil=>simp at hi;simp[hi]
 |cons a l ih=>
  cases i with
  |zero=>simp[h2 a rfl]
  |succ i=>
   rw[List.takeWhile_cons,h1 0 a (by omega) rfl,if_pos rfl,List.length_cons]
   rw[ih i (fun k x hk hx=>h1 (k+1) x (by omega) hx) (fun x hx=>h2 x hx) (by simpa using hi)]
def Cut (rs:List (List ByteArray))(t:List ByteArray):Prop:=∀(i j:Nat) (x y:List ByteArray),i≤j→rs[i]? =some x→rs[j]? =some y→Zaj y t<0→Zaj x t<0
def ZuF (pb:Nat):Value:=.func (.func 142) #[.pointer (some ⟨pb,0,none⟩)] #[]
theorem ZuG (rs:List (List ByteArray))(t:List ByteArray)(pb:Nat)(a:Option Addr)(n cap:Nat)(ab:Option Addr)(m cb:Nat)(w:World)(hp:w.cell? ⟨pb,0,none⟩=some Zlh)(hr:Zcp w a n rs)(hb:Zai w ab m t)(hc:Cut rs t)(hn:n≤1000000000):
  Calls Tryz.prog 141 #[.slice a n cap,.slice ab m cb,ZuF pb] w fun e w'=>e=.returned (.tuple #[.int .i64 (ZdK rs t:Nat),.bool (ZaX rs t)])∧w'=w:=by
 have HR:=zh hr
 have HB:=zh hb
 have HP:=zh hp
 have HC:=zh hc
 have HL:=zh hr.2.1
 clear hr hb hp hc
 unfold ZuF
 go_enter Tryz.func141,Tryz.ntmps141
 go_wp2
 go_loopw [9,10] (fun v9 v10 wj=>∃i j:Nat,i≤j∧j≤n∧v9=.int .i64 (i:Int)∧v10=.int .i64 (j:Int)∧wj=w∧(∀k x,k<i→rs[k]? =some x→Zaj x t<0)∧(∀x,rs[j]? =some x→0≤Zaj x t)) (fun v9 v10 _=>(intOf v10).toNat-(intOf v9).toNat)
 case atStart=>exact⟨0,n,Nat.zero_le _,Nat.le_refl _,rfl,rfl,rfl,fun k x hk=>absurd hk (Nat.not_lt_zero _),fun x hx=>by rw[List.getElem?_eq_none (by have:=HL.out;omega)] at hx;cases hx⟩
 case round=>
  obtain⟨i,j,hij,hjn,rfl,rfl,rfl,h1,h2⟩:=hrel
  have H1:=zh h1
  have H2:=zh h2
  clear h1 h2
  by_cases hlt:i<j
  ·have hli:(i:Int)<(j:Int):=by omega
   have hp:=HP.out
   go_upto_region 5 with (fail)
   obtain⟨h,hh⟩:∃h:Nat,((i:Int)+(j:Int))/2=(h:Int):=⟨(i+j)/2,by omega⟩
   have hih:i≤h:=by omega
   have hhj:h<j:=by omega
   rw[hh]
   clear hh
   obtain⟨x,b1,o1,hx,rfl,aR,nR,cR,c1,sR⟩:=HR.out.2.at (i:=h) (by omega)
   have HX:=zh hx
   have g1:wr.cell? ⟨b1,o1+h,none⟩=some (.slice aR nR cR):=by simpa using c1
   have SR:=zh sR
   have hhn:(h:Int)<(n:Int):=by omega
   obtain⟨C,hC⟩:∃C,Zaj x t=C:=⟨_,rfl⟩
   have HCC:=zh hC
   clear hx c1 sR hC
   by_cases h0:C<0
   ·have t1:(C<0):=h0
    have HNX:Hid (∀k y,k<h+1→rs[k]? =some y→Zaj y t<0):=fun k y hk hy=>HC.out k h y x (by omega) hy HX.out (by rw[HCC.out];exact h0)
    go_wp2_with (go_at_call 142;(with_reducible refine(Znj x t pb _ _ _ _ _ _ _ HP.out SR.out HB.out).mono ?_);rw[HCC.out];rintro e w1 ⟨rfl,hw1⟩;obtain rfl:=hw1.symm)
    go_roundw
    case rel=>exact⟨h+1,j,by omega,hjn,by go_num,rfl,by first|trivial|rfl,HNX.out,H2.out⟩
    case measure=>simp[intOf];omega
   ·have HNX:Hid (∀y,rs[h]? =some y→0≤Zaj y t):=fun y hy=>by
     have:=HX.out.symm.trans hy
     cases this
     rw[HCC.out]
     omega
    go_wp2_with (go_at_call 142;(with_reducible refine(Znj x t pb _ _ _ _ _ _ _ HP.out SR.out HB.out).mono ?_);rw[HCC.out];rintro e w1 ⟨rfl,hw1⟩;obtain rfl:=hw1.symm)
    go_roundw
    case rel=>exact⟨i,h,by omega,by omega,rfl,rfl,by first|trivial|rfl,H1.out,HNX.out⟩
    case measure=>simp[intOf];omega
  ·obtain rfl:i=j:=by omega
   have hge:¬(i:Int)<(i:Int):=by omega
   have hlow:ZdK rs t=i:=Ze2 _ rs i (fun k x hk hx=>by simpa using H1.out k x hk hx) (fun x hx=>by simpa using H2.out x hx) (by have:=HL.out;omega)
   have HLOW:=zh hlow
   clear hlow hlt
   by_cases hin:i<n
   ·have hin2:(i:Int)<(n:Int):=by omega
    have hp:=HP.out
    obtain⟨x,b1,o1,hx,rfl,aR,nR,cR,c1,sR⟩:=HR.out.2.at (i:=i) hin
    have HX:=zh hx
    have g1:wr.cell? ⟨b1,o1+i,none⟩=some (.slice aR nR cR):=by simpa using c1
    have SR:=zh sR
    obtain⟨C,hC⟩:∃C,Zaj x t=C:=⟨_,rfl⟩
    have HCC:=zh hC
    have HFB:Hid (ZaX rs t=(C==0)):=by
     show _=_
     unfold ZaX
     rw[HLOW.out,hx,←hC]
     rfl
    clear hx c1 sR hC
    go_wp2_with (go_at_call 142;(with_reducible refine(Znj x t pb _ _ _ _ _ _ _ HP.out SR.out HB.out).mono ?_);rw[HCC.out];rintro e w1 ⟨rfl,hw1⟩;obtain rfl:=hw1.symm)
    go_ret2
    exact⟨by rw[HLOW.out,HFB.out];rfl,rfl⟩
   ·obtain rfl:i=n:=by omega
    have HFB:Hid (ZaX rs t=false):=by
     show _=_
     unfold ZaX
     rw[HLOW.out,List.getElem?_eq_none (by have:=HL.out;omega)]
    go_wp2
    go_ret2
    exact⟨by rw[HLOW.out,HFB.out];rfl,rfl⟩
theorem Znk (rs:List (List ByteArray))(t:List ByteArray)(pb:Nat)(a:Option Addr)(n cap:Nat)(ab:Option Addr)(m cb:Nat)(w:World)(hp:w.cell? ⟨pb,0,none⟩=some Zlh)(hi:w.cell? ⟨pb,1,none⟩=some (.slice a n cap))(hr:Zcp w a n rs)(hb:Zai w ab m t)(hc:Cut rs t)(hn:n≤1000000000):
  Calls Tryz.prog 113 #[.pointer (some ⟨pb,0,none⟩),.slice ab m cb] w fun e w'=>e=.returned (.tuple #[.int .i64 (ZdK rs t:Nat),.bool (ZaX rs t)])∧w'=w:=by
 have BS:=zh (ZuG rs t pb a n cap ab m cb w hp hr hb hc hn)
 unfold ZuF at BS
 clear hp hr hb hc
 go_enter Tryz.func113,Tryz.ntmps113
 go_wp2_with (go_at_call 141;(with_reducible refine BS.out.mono ?_);rintro e w1 ⟨rfl,hw1⟩;obtain rfl:=hw1.symm)
 go_ret2
 exact⟨rfl,rfl⟩
theorem ZaL {w:World}{base:Nat}{a:Option Addr}{n cap:Nat}{xs:List ByteArray}(h:w.ownsRow base 9 1 (.slice a n cap) n (xs.map Value.string))(hn:n≤maxLen):Zai w a n xs:=by
 have hl:=h.1
 rw[List.length_map,Nat.mul_one] at hl
 refine⟨hn,hl,fun i x hx=>?_⟩
 have hi:=(zgs hx).1
 rcases h.2 with⟨h1,h0⟩|⟨g,c',cur,hv,_⟩
 ·omega
 ·cases hv
  have:=h.cells (g:=g) rfl i (.string x) (by rw[List.getElem?_map,hx];rfl)
  rw[Addr.add_lit] at this
  exact⟨g,0,rfl,by simpa [Zdg] using this⟩
theorem Za4 {w:World}{base n size:Nat}{e:TypeId}{a:Option Addr}{c m:Nat}{xs:List Value}(h:w.ownsRow base e size (.slice a m c) n xs):n≤maxLen∧m=n:=by
 rcases h.2 with⟨h1,h0⟩|⟨g,c',cur,hv,_,_,hn,hm,_⟩
 ·cases h1
  subst h0
  exact⟨Nat.zero_le _,rfl⟩
 ·cases hv
  exact⟨Nat.le_trans hn hm,rfl⟩
structure Zay (w:World)(lo pb ar:Nat)(rs:List (List ByteArray)):Prop where
 lt:pb<lo
 c0:w.cell? ⟨pb,0,none⟩=some Zlh
 c2:w.cell? ⟨pb,2,none⟩=some (.int .i64 (ar:Int))
 free:w.frozen? ⟨pb,1,none⟩=false
 row:∃(a:Option Addr) (c:Nat) (vs:List Value),w.cell? ⟨pb,1,none⟩=some (.slice a rs.length c)∧w.ownsRow lo 54 1 (.slice a rs.length c) rs.length vs∧∀(i:Nat) (r:List ByteArray) (v:Value),rs[i]? =some r→vs[i]? =some v→w.ownsRow lo 9 1 v r.length (r.map Value.string)
theorem Zay.items {w:World}{lo pb ar:Nat}{rs:List (List ByteArray)}(h:Zay w lo pb ar rs)(hn:rs.length≤maxLen):∃a c,w.cell? ⟨pb,1,none⟩=some (.slice a rs.length c)∧Zcp w a rs.length rs:=by
 obtain⟨a,c,vs,h1,h2,h3⟩:=h.row
 refine⟨a,c,h1,hn,rfl,fun i r hr=>?_⟩
 have hl:=h2.1
 have hi:=(zgs hr).1
 obtain⟨v,hv⟩:∃v,vs[i]? =some v:=⟨_,zge (by omega)⟩
 have h5:=h3 i r v hr hv
 obtain⟨a',c',rfl,_⟩:=Zag h5
 have h4:=ZaL h5 (Za4 h5).1
 rcases h2.2 with⟨e1,e2⟩|⟨g,c1,cur,e1,_⟩
 ·omega
 ·cases e1
  have:=h2.cells (g:=g) rfl i _ hv
  rw[Addr.add_lit] at this
  exact⟨g,0,rfl,a',r.length,c',by rw[Nat.mul_one];exact this,h4⟩
theorem Zi6 (lo pb ar:Nat)(rs:List (List ByteArray))(w:World)(h:Zay w lo pb ar rs):
  Calls Tryz.prog 41 #[.pointer (some ⟨pb,0,none⟩)] w fun e w'=>e=.returned (.pointer (some ⟨pb,0,none⟩))∧w'=w:=by
 have c0:=h.c0
 have eqf:=Zni
 clear h
 go_enter Tryz.func41,Tryz.ntmps41
 go_wp2
 go_returns
 exact⟨rfl,rfl⟩
theorem Ztk (lo pb ar:Nat)(rs:List (List ByteArray))(w:World)(h:Zay w lo pb ar rs):
  Calls Tryz.prog 111 #[.pointer (some ⟨pb,0,none⟩)] w fun e w'=>e=.returned (.int .i64 (rs.length:Nat))∧w'=w:=by
 obtain⟨a,c,vs,h1,_⟩:=h.row
 go_enter Tryz.func111,Tryz.ntmps111
 go_wp2
 go_returns
 exact⟨rfl,rfl⟩
theorem Ze3 (lo pb ar:Nat)(rs:List (List ByteArray))(w:World)(h:Zay w lo pb ar rs):
  Calls Tryz.prog 69 #[.pointer (some ⟨pb,0,none⟩)] w fun e w'=>e=.returned (.int .i64 (rs.length:Nat))∧w'=w:=by
 have H:=zh h
 clear h
 go_enter Tryz.func69,Tryz.ntmps69
 go_wp2_with (first
  |(go_at_call 41;(with_reducible refine(Zi6 lo pb ar rs _ H.out).mono ?_);rintro e w1 ⟨rfl,hw1⟩;obtain rfl:=hw1.symm)
  |(go_at_call 111;(with_reducible refine(Ztk lo pb ar rs _ H.out).mono ?_);rintro e w1 ⟨rfl,hw1⟩;obtain rfl:=hw1.symm))
 go_returns
 exact⟨rfl,rfl⟩
theorem ZgP (lo pb ar:Nat)(rs:List (List ByteArray))(w:World)(h:Zay w lo pb ar rs):
  Calls Tryz.prog 15 #[.pointer (some ⟨pb,0,none⟩)] w fun e w'=>e=.returned (.int .i64 (ar:Int))∧w'=w:=by
 have c2:=h.c2
 clear h
 go_enter Tryz.func15,Tryz.ntmps15
 go_wp2
 go_returns
 exact⟨rfl,rfl⟩
theorem Zgi (ar:Int)(har:ar<0∨64<ar)(w:World):
  Calls Tryz.prog 24 #[.int .i64 ar] w fun e w'=>e=.returned (.tuple #[.pointer none,.int .i64 2])∧w'=w:=by
 obtain⟨b,hb⟩:∃b,decide (ar<0)=b:=⟨_,rfl⟩
 cases b with
 |true=>
  have h1:ar<0:=by simpa using hb
  clear hb har
  go_enter Tryz.func24,Tryz.ntmps24
  go_wp2
  go_ret2
  exact⟨rfl,rfl⟩
 |false=>
  have h1:¬ar<0:=by simpa using hb
  have h2:64<ar:=by omega
  clear hb har
  go_enter Tryz.func24,Tryz.ntmps24
  go_wp2
  go_ret2
  exact⟨rfl,rfl⟩
theorem ZbI:(Tryz.prog.info? 9).map (fun i=>(i.zero,i.size,i.bytes))=some (some (.string ⟨#[]⟩),1,16):=by kernel_rfl
theorem ZrO (w:World):(binOp .eql 54 (.slice none 0 0) (.slice none 0 0)).run Tryz.prog w=.ok (.bool true) w:=by kernel_rfl
theorem ZpC (ad:Addr)(n cap:Nat)(w:World):(binOp .eql 54 (.slice (some ad) n cap) (.slice none 0 0)).run Tryz.prog w=.ok (.bool false) w:=by kernel_rfl
theorem ZgQ {w:World}{a:Option Addr}{n:Nat}{xs:List ByteArray}(h:Zai w a n xs):(xs.map Value.string).length=n*1∧(∀ad,a=some ad→∀j u,(xs.map Value.string)[j]? =some u→w.cell? (ad.add j)=some u)∧∀u∈xs.map Value.string,u.oneCell'=true:=by
 refine⟨by rw[List.length_map,h.2.1,Nat.mul_one],fun ad e j u hu=>?_,fun u hu=>?_⟩
 ·rw[List.getElem?_map] at hu
  obtain⟨x,hx,rfl⟩:=Option.map_eq_some_iff.1 hu
  obtain⟨b,off,e2,hc⟩:=h.2.2 j x hx
  rw[e] at e2
  cases e2
  rw[Addr.add_lit]
  simpa [Zdg] using hc
 ·obtain⟨x,_,rfl⟩:=List.mem_map.1 hu
  rfl
theorem Ze4 (xs:List ByteArray)(a:Option Addr)(n cap:Nat)(w:World)(h:Zai w a n xs)(hn:n≤8796093022207)(hc:a=none→n=0∧cap=0):
  Calls Tryz.prog 43 #[.slice a n cap] w fun e w'=>∃a' c',e=.returned (.slice a' n c')∧w'.ownsRow w.heap.size 9 1 (.slice a' n c') n (xs.map Value.string)∧(a=none→a'=none)∧Ext w w':=by
 have H:=zh h
 clear h
 cases a with
 |none=>
  obtain⟨rfl,rfl⟩:=hc rfl
  have hx:xs=[]:=List.eq_nil_of_length_eq_zero H.out.2.1
  subst hx
  have eqn:=ZrO
  go_enter Tryz.func43,Tryz.ntmps43
  go_wp2
  go_returns
  exact⟨none,0,rfl,World.ownsRow_nil _ _ _ _,by simp,Below.refl _ _⟩
 |some ad=>
  clear hc
  obtain⟨i0,hi,hz0,hz1,hz2⟩:=info_parts ZbI
  obtain⟨il,ic,io⟩:=ZgQ (H.out.keep (Zab zbr (.cells #[] 9)))
  have IL:=zh il
  have IC:=zh ic
  have IO:=zh io
  have H3:Hid (0+n≤maxLen):=by show _≤_;unfold maxLen;omega
  have H4:Hid ((0+n)*16≤140737488355328):=by show _≤_;omega
  have hown0:(w.alloc (.cells #[] 9)).ownsRow w.heap.size 9 1 (.slice (some ⟨w.heap.size,0,none⟩) 0 0) 0 []:=World.ownsRow_lit w #[] 0 (Nat.le_refl _) (by unfold maxLen;omega) rfl
  have HO:=zh hown0
  have eqn:=ZpC ad n cap
  clear il ic io hown0
  go_enter Tryz.func43,Tryz.ntmps43
  go_wp2_with (at_builtin;go_loud (refine Zas rfl _ _ 54 rfl w.heap.size 9 i0 (.string ⟨#[]⟩) 1 16 Tryz.underlying54 hi hz0 hz1 hz2 rfl (by decide) _ _ _ rfl HO.out (some ad) n cap (xs.map Value.string) rfl (by intro h;cases h) IL.out IC.out IO.out H3.out H4.out (Za3 (Nat.le_refl _)) ?_);intro v1 w1 own1 g1)
  obtain⟨a1,c1,rfl,_⟩:=Zag own1
  have hb:=Zaz (Zab (Below.refl _ w:Ext w w) _) g1 (by intro g e;cases e;exact Nat.le_refl _)
  go_returns
  rw[Nat.zero_add,List.nil_append] at own1
  exact⟨a1,c1,by rw[Nat.zero_add];rfl,own1,fun h=>(by cases h),hb⟩
def ZaP (xs:List ByteArray):Bool:=!(xs.any fun x=>decide (4096<x.size))
theorem Zq5 (x:ByteArray)(w:World):Calls Tryz.prog 110 #[.string x] w fun e w'=>e=.returned (.bool (decide (4096<x.size)))∧w'=w:=by
 obtain⟨b,hb⟩:∃b,decide (4096<x.size)=b:=⟨_,rfl⟩
 rw[hb]
 have hb2:decide ((4096:Int)<(x.size:Int))=b:=by
  rw[←hb]
  simp only[decide_eq_decide]
  omega
 clear hb
 go_enter Tryz.func110,Tryz.ntmps110
 go_wp2
 go_returns
 exact⟨by first|rfl|(simp [hb2]),rfl⟩
def ZeE:List ByteArray→Nat→Int
 |[],_=> -1
 |x::l,k=>if 4096<x.size then (k:Int) else ZeE l (k+1)
theorem Zmk (l:List ByteArray)(k:Nat):decide (0≤ZeE l k)=l.any fun x=>decide (4096<x.size):=by
 induction l generalizing k with
 |nil=>rfl
 |cons x l ih=>
  rw[ZeE,List.any_cons]
  by_cases h:4096<x.size
  ·rw[if_pos h]
   simp[h]
  ·rw[if_neg h,ih]
   simp[h]
theorem ZpD (xs:List ByteArray)(a:Option Addr)(n cap:Nat)(w:World)(h:Zai w a n xs):
  Calls Tryz.prog 140 #[.slice a n cap,.func (.func 110) #[] #[]] w fun e w'=>e=.returned (.int .i64 (ZeE xs 0))∧w'=w:=by
 have H:=zh h
 have HL:=zh h.2.1
 have hn:n≤9223372036854775807:=h.1
 clear h
 obtain⟨R,hR⟩:∃R,R=ZeE xs 0:=⟨_,rfl⟩
 rw[←hR]
 have FIN:=zh hR
 clear hR
 go_enter Tryz.func140,Tryz.ntmps140
 go_wp2
 go_loopw [8] (fun v wj=>∃k:Nat,k≤n∧v=.int .i64 (k:Int)∧wj=w∧R=ZeE (xs.drop k) k) (fun v _=>n-(intOf v).toNat)
 case atStart=>exact⟨0,by omega,rfl,rfl,by rw[FIN.out,List.drop_zero]⟩
 case round=>
  obtain⟨k,hk,rfl,rfl,hq⟩:=hrel
  have HQ:=zh hq
  clear hq
  by_cases hlt:k<n
  ·have hki:(k:Int)<(n:Int):=by omega
   obtain⟨x,b1,o1,hx,rfl,h1⟩:=H.out.2.at hlt
   have HX:=zh hx
   have g1:wr.cell? ⟨b1,o1+k,none⟩=some (.string x):=by simpa [Zdg] using h1
   clear hx h1
   obtain⟨b,hb⟩:∃b,decide (4096<x.size)=b:=⟨_,rfl⟩
   have HB:=zh hb
   have HST:Hid (R=if b=true then (k:Int) else ZeE (xs.drop (k+1)) (k+1)):=by
    show _=_
    rw[HQ.out,Zbn HX.out,ZeE,←hb]
    simp
   clear hb
   cases b with
   |true=>
    go_wp2_with (go_at_call 110;(with_reducible refine(Zq5 x _).mono ?_);rw[HB.out];rintro e w1 ⟨rfl,hw1⟩;obtain rfl:=hw1.symm)
    go_returns
    exact⟨by rw[HST.out];rfl,rfl⟩
   |false=>
    go_wp2_with (go_at_call 110;(with_reducible refine(Zq5 x _).mono ?_);rw[HB.out];rintro e w1 ⟨rfl,hw1⟩;obtain rfl:=hw1.symm)
    go_roundw
    case rel=>exact⟨k+1,by omega,by go_num,by first|trivial|rfl,by rw[HST.out];rfl⟩
    case measure=>simp[intOf];omega
  ·obtain rfl:k=n:=by omega
   have hge:¬(k:Int)<(k:Int):=by omega
   go_wp2
   go_returns
   exact⟨by rw[HQ.out,List.drop_of_length_le (by have:=HL.out;omega)];rfl,rfl⟩
theorem ZrP (xs:List ByteArray)(a:Option Addr)(n cap:Nat)(w:World)(h:Zai w a n xs):
  Calls Tryz.prog 109 #[.slice a n cap,.func (.func 110) #[] #[]] w fun e w'=>e=.returned (.bool (decide (0≤ZeE xs 0)))∧w'=w:=by
 have H:=zh h
 clear h
 go_enter Tryz.func109,Tryz.ntmps109
 go_wp2_with (go_at_call 140;(with_reducible refine(ZpD xs _ _ _ _ H.out).mono ?_);rintro e w1 ⟨rfl,hw1⟩;obtain rfl:=hw1.symm)
 go_returns
 exact⟨rfl,rfl⟩
theorem ZcG (xs:List ByteArray)(a:Option Addr)(n cap:Nat)(w:World)(h:Zai w a n xs):
  Calls Tryz.prog 68 #[.slice a n cap] w fun e w'=>e=.returned (.bool (ZaP xs))∧w'=w:=by
 have H:=zh h
 clear h
 obtain⟨b,hb⟩:∃b,decide (0≤ZeE xs 0)=b:=⟨_,rfl⟩
 have HB:=zh hb
 have HM:Hid (ZaP xs= !b):=by
  show _=_
  unfold ZaP
  rw[←hb,Zmk]
 clear hb
 go_enter Tryz.func68,Tryz.ntmps68
 go_wp2_with (go_at_call 109;(with_reducible refine(ZrP xs _ _ _ _ H.out).mono ?_);rw[HB.out];rintro e w1 ⟨rfl,hw1⟩;obtain rfl:=hw1.symm)
 go_returns
 exact⟨by rw[HM.out];rfl,rfl⟩
open K (ZaG Zda ZaQ Zaq Zbl ZaR Zbw Zcm)
theorem ZrQ (xs:List ByteArray)(t:ByteArray)(a:Option Addr)(n c:Nat)(w:World)(h:Zai w a n xs):Calls Tryz.prog 76 #[.slice a n c,.string t] w fun e w'=>e=.returned (.bool (decide (t∈xs)))∧w'=w:=by
 have H:=zh h
 have HL:=zh h.2.1
 have hn:n≤9223372036854775807:=h.1
 clear h
 go_enter Tryz.func76,Tryz.ntmps76
 go_wp2
 go_loopw [5] (fun u wj=>∃k:Nat,k≤n∧u=.int .i64 k∧t∉xs.take k∧wj=w) (fun u _=>n-(intOf u).toNat)
 case atStart=>exact⟨0,Nat.zero_le _,rfl,by simp,rfl⟩
 case round=>
  obtain⟨k,hk,rfl,hq,hw⟩:=hrel
  obtain rfl:=hw.symm
  have HQ:=zh hq
  clear hq
  by_cases hlt:k<n
  ·have hki:(k:Int)<(n:Int):=by omega
   obtain⟨y,b,o,hx,rfl,hc⟩:=H.out.2.at hlt
   have HX:=zh hx
   rw[Nat.mul_one] at hc
   have hc2:w.cell? ⟨b,o+k,none⟩=some (.string y):=hc
   obtain⟨q,hqq⟩:∃q,(y==t)=q:=⟨_,rfl⟩
   have hq2:(y.toList==t.toList)=q:=by rw[Zbr,←hqq];rw[Bool.eq_iff_iff];simp
   have HQQ:Hid ((y=t)↔q=true):=by show _↔_;rw[←hqq];simp
   clear hx hc
   cases q with
   |true=>
    go_wp2
    go_returns
    refine⟨ZaS ?_,rfl⟩
    symm
    rw[decide_eq_true_eq,←HQQ.out.2 (by simp)]
    exact zmg HX.out
   |false=>
    go_wp2
    go_roundw
    case rel=>
     refine⟨k+1,by omega,by go_num,?_,trivial⟩
     rw[ZaA HX.out,List.mem_append]
     rintro (h|h)
     ·exact HQ.out h
     ·rw[List.mem_singleton] at h
      have:=HQQ.out.1 h.symm
      cases this
    case measure=>simp[intOf];omega
  ·obtain rfl:k=n:=by omega
   have hge:¬(k:Int)<(k:Int):=by omega
   have tk:xs.take k=xs:=List.take_of_length_le (by have:=HL.out;omega)
   have HT:Hid (t∉xs):=by rw[←tk];exact HQ.out
   go_wp2
   go_returns
   exact⟨ZaS (by simp[HT.out]),rfl⟩
def Zdh (up:Int)(t:ZaG):Bool:=decide (1≤t.kind)&&decide (t.kind≤up)
theorem Zkg (ts:List ZaG)(up:Int)(a:Option Addr)(n c:Nat)(w:World)(h:Zaq w a n ts):Calls Tryz.prog 117 #[.slice a n c,.int .i64 up] w fun e w'=>e=.returned (.bool (ts.all (Zdh up)))∧w'=w:=by
 have H:=zh h
 have HL:=zh h.2.1
 have hn:=h.1
 clear h
 go_enter Tryz.func117,Tryz.ntmps117
 go_wp2
 go_loopw [5] (fun u wj=>∃k:Nat,k≤n∧u=.int .i64 k∧(ts.take k).all (Zdh up)=true∧wj=w) (fun u _=>n-(intOf u).toNat)
 case atStart=>exact⟨0,Nat.zero_le _,rfl,by simp,rfl⟩
 case round=>
  obtain⟨k,hk,rfl,hq,hw⟩:=hrel
  obtain rfl:=hw.symm
  have HQ:=zh hq
  clear hq
  by_cases hlt:k<n
  ·have hki:(k:Int)<(n:Int):=by omega
   obtain⟨t,bt,off,hx,rfl,hc1,hc2,hc3⟩:=H.out.2.at hlt
   have HX:=zh hx
   obtain⟨b1,e1⟩:∃b,decide (t.kind<1)=b:=⟨_,rfl⟩
   obtain⟨b2,e2⟩:∃b,decide (up<t.kind)=b:=⟨_,rfl⟩
   have HK:Hid (Zdh up t=(!b1&&!b2)):=by
    show _=_
    unfold Zdh
    rw[←e1,←e2,←decide_not,←decide_not]
    congr 2 <;> simp <;> omega
   clear hx
   cases b1
   ·cases b2
    ·go_wp2
     go_roundw
     case rel=>exact⟨k+1,by omega,by go_num,by rw[ZaA HX.out,List.all_append,HQ.out];simp[HK.out],trivial⟩
     case measure=>simp[intOf];omega
    ·go_wp2
     go_returns
     refine⟨ZaS ?_,rfl⟩
     symm
     rw[List.all_eq_false]
     exact⟨t,zmg HX.out,by rw[HK.out];simp⟩
   ·go_wp2
    go_returns
    refine⟨ZaS ?_,rfl⟩
    symm
    rw[List.all_eq_false]
    exact⟨t,zmg HX.out,by rw[HK.out];simp⟩
  ·obtain rfl:k=n:=by omega
   have hge:¬(k:Int)<(k:Int):=by omega
   have tk:ts.take k=ts:=List.take_of_length_le (by have:=HL.out;omega)
   have HT:Hid (ts.all (Zdh up)=true):=by have:=HQ.out;rw[tk] at this;exact this
   go_wp2
   go_returns
   exact⟨ZaS HT.out.symm,rfl⟩
