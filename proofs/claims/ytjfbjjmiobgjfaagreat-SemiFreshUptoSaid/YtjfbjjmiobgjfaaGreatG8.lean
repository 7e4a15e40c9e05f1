/- The walks of cmp.Less and slices.BinarySearch at texts. -/
import Derived.Test.YtjfbjjmiobgjfaaGreatG7
import Derived.Deep.CutBlock
set_option maxRecDepth 100000
set_option maxHeartbeats 8000000
namespace Go.Proofs.YtjfbjjmiobgjfaaGreat
open ChangeShapes WideShapes ChangeAt RowKit
theorem Zvb (x:ByteArray)(w:World):Calls Tryz.prog 124 #[.string x] w fun e w'=>e=.returned (.bool false)∧w'=w:=by
 have ea:(x.toList==x.toList)=true:=by simp
 go_enter Tryz.func124,Tryz.ntmps124
 go_wp2
 go_returns
 exact⟨rfl,rfl⟩
theorem Zpu (x:ByteArray)(w:World):Calls Tryz.prog 204 #[.string x] w fun e w'=>e=.returned (.bool false)∧w'=w:=by
 have ea:(x.toList==x.toList)=true:=by simp
 go_enter Tryz.func204,Tryz.ntmps204
 go_wp2
 go_returns
 exact⟨rfl,rfl⟩
theorem ZrK (x y:ByteArray)(w:World):Calls Tryz.prog 203 #[.string x,.string y] w fun e w'=>e=.returned (.bool (ltB x y))∧w'=w:=by
 obtain⟨p,hp⟩:∃p,Op.bytesLess x.toList y.toList=p:=⟨_,rfl⟩
 have HP:Hid (ltB x y=p):=hp
 go_enter Tryz.func203,Tryz.ntmps203
 go_wp2_with (go_at_call 124;(with_reducible refine(Zvb _ _).mono ?_);rintro e w1 ⟨rfl,hw1⟩;obtain rfl:=hw1.symm)
 go_returns
 exact⟨by rw[HP.out];first|rfl|(cases p <;> rfl),rfl⟩
def Zng (ks:List ByteArray)(t:ByteArray):Nat:=(ks.takeWhile fun k=>ltB k t).length
def Zhu (ks:List ByteArray)(t:ByteArray):Bool:=match ks[Zng ks t]? with
 |some x=>x.toList==t.toList
 |none=>false
theorem Zpv {ks:List ByteArray}{t:ByteArray}{r:Nat}(h1:∀k x,k<r→ks[k]? =some x→ltB x t=true)(h2:∀x,ks[r]? =some x→ltB x t=false)(hr:r≤ks.length):Zng ks t=r:=Ze2 _ ks r h1 h2 hr
def CutS (ks:List ByteArray)(t:ByteArray):Prop:=∀(i j:Nat) (x y:ByteArray),i≤j→ks[i]? =some x→ks[j]? =some y→ltB y t=true→ltB x t=true
theorem c_bs (ks:List ByteArray)(t:ByteArray)(a:Option Addr)(n cap:Nat)(w:World)(hr:Zai w a n ks)(hc:CutS ks t)(hn:n≤1000000000):
  Calls Tryz.prog 193 #[.slice a n cap,.string t] w fun e w'=>e=.returned (.tuple #[.int .i64 (Zng ks t:Nat),.bool (Zhu ks t)])∧w'=w:=by
 have HR:=zh hr
 have HC:=zh hc
 have HL:=zh hr.2.1
 clear hr hc
 go_enter Tryz.func193,Tryz.ntmps193
 go_wp2
 go_loopw [7,8] (fun v9 v10 wj=>∃i j:Nat,i≤j∧j≤n∧v9=.int .i64 (i:Int)∧v10=.int .i64 (j:Int)∧wj=w∧(∀k x,k<i→ks[k]? =some x→ltB x t=true)∧(∀x,ks[j]? =some x→ltB x t=false)) (fun v9 v10 _=>(intOf v10).toNat-(intOf v9).toNat)
 case atStart=>exact⟨0,n,Nat.zero_le _,Nat.le_refl _,rfl,rfl,rfl,fun k x hk=>absurd hk (Nat.not_lt_zero _),fun x hx=>by rw[List.getElem?_eq_none (by have:=HL.out;omega)] at hx;cases hx⟩
 case round=>
  obtain⟨i,j,hij,hjn,rfl,rfl,rfl,h1,h2⟩:=hrel
  have H1:=zh h1
  have H2:=zh h2
  clear h1 h2
  by_cases hlt:i<j
  ·have hlti:(i:Int)<(j:Int):=by omega
   go_upto_region 5 with (fail)
   obtain⟨h,hh⟩:∃h:Nat,((i:Int)+(j:Int))/2=(h:Int):=⟨(i+j)/2,by omega⟩
   have hih:i≤h:=by omega
   have hhj:h<j:=by omega
   rw[hh]
   clear hh
   obtain⟨x,b1,o1,hx,rfl,c1⟩:=HR.out.2.at (i:=h) (by omega)
   have HX:=zh hx
   have g1:wr.cell? ⟨b1,o1+h,none⟩=some (.string x):=by simpa [Zdg] using c1
   have hhn:(h:Int)<(n:Int):=by omega
   obtain⟨C,hC⟩:∃C,ltB x t=C:=⟨_,rfl⟩
   have HCC:=zh hC
   clear hx c1 hC
   cases C with
   |true=>
    have HNX:Hid (∀k y,k<h+1→ks[k]? =some y→ltB y t=true):=fun k y hk hy=>HC.out k h y x (by omega) hy HX.out HCC.out
    go_wp2_with (go_at_call 203;(with_reducible refine(ZrK x t _).mono ?_);rw[HCC.out];rintro e w1 ⟨rfl,hw1⟩;obtain rfl:=hw1.symm)
    go_roundw
    case rel=>exact⟨h+1,j,by omega,hjn,by go_num,rfl,by first|trivial|rfl,HNX.out,H2.out⟩
    case measure=>simp[intOf];omega
   |false=>
    have HNX:Hid (∀y,ks[h]? =some y→ltB y t=false):=fun y hy=>by
     have:=HX.out.symm.trans hy
     cases this
     exact HCC.out
    go_wp2_with (go_at_call 203;(with_reducible refine(ZrK x t _).mono ?_);rw[HCC.out];rintro e w1 ⟨rfl,hw1⟩;obtain rfl:=hw1.symm)
    go_roundw
    case rel=>exact⟨i,h,by omega,by omega,rfl,rfl,by first|trivial|rfl,H1.out,HNX.out⟩
    case measure=>simp[intOf];omega
  ·obtain rfl:i=j:=by omega
   have hge:¬(i:Int)<(i:Int):=by omega
   have hlow:Zng ks t=i:=Zpv H1.out H2.out (by have:=HL.out;omega)
   have HLOW:=zh hlow
   clear hlow hlt
   by_cases hin:i<n
   ·have hin2:(i:Int)<(n:Int):=by omega
    obtain⟨x,b1,o1,hx,rfl,c1⟩:=HR.out.2.at (i:=i) hin
    have g1:wr.cell? ⟨b1,o1+i,none⟩=some (.string x):=by simpa [Zdg] using c1
    obtain⟨q,hq⟩:∃q,(x.toList==t.toList)=q:=⟨_,rfl⟩
    have HFB:Hid (Zhu ks t=q):=by
     show _=_
     unfold Zhu
     rw[HLOW.out,hx]
     exact hq
    clear hx c1
    cases q with
    |true=>
     go_wp2_with (go_at_call 204;(with_reducible refine(Zpu _ _).mono ?_);rintro e w1 ⟨rfl,hw1⟩;obtain rfl:=hw1.symm)
     go_ret2
     exact⟨by rw[HLOW.out,HFB.out];rfl,rfl⟩
    |false=>
     go_wp2_with (go_at_call 204;(with_reducible refine(Zpu _ _).mono ?_);rintro e w1 ⟨rfl,hw1⟩;obtain rfl:=hw1.symm)
     go_ret2
     exact⟨by rw[HLOW.out,HFB.out];rfl,rfl⟩
   ·obtain rfl:i=n:=by omega
    have HFB:Hid (Zhu ks t=false):=by
     show _=_
     unfold Zhu
     rw[HLOW.out,List.getElem?_eq_none (by have:=HL.out;omega)]
    go_wp2_with (go_at_call 204;(with_reducible refine(Zpu _ _).mono ?_);rintro e w1 ⟨rfl,hw1⟩;obtain rfl:=hw1.symm)
    go_ret2
    exact⟨by rw[HLOW.out,HFB.out];rfl,rfl⟩
theorem Zj5 (ks:List ByteArray)(t:ByteArray):Zng ks t≤ks.length∧(∀k x,k<Zng ks t→ks[k]? =some x→ltB x t=true)∧∀x,ks[Zng ks t]? =some x→ltB x t=false:=by
 unfold Zng
 induction ks with
 |nil=>exact⟨Nat.le_refl _,fun k x hk=>by simp at hk,fun x hx=>by simp at hx⟩
 |cons a ks ih=>
  rw[List.takeWhile_cons]
  by_cases h:ltB a t=true
  ·rw[if_pos h,List.length_cons,List.length_cons]
   refine⟨by omega,fun k x hk hx=>?_,fun x hx=>?_⟩
   ·cases k with
    |zero=>cases hx;exact h
    |succ k=>exact ih.2.1 k x (by omega) (by simpa using hx)
   ·exact ih.2.2 x (by simpa using hx)
  ·rw[if_neg h]
   refine⟨Nat.zero_le _,fun k x hk=>by simp at hk,fun x hx=>?_⟩
   cases hx
   simpa using h
def skP (ks:List ByteArray)(f t:Nat)(x:ByteArray):Nat:=f+Zng ((ks.drop f).take (t-f)) x
theorem Zhv (ks:List ByteArray){f t j:Nat}(hj:j<t-f):((ks.drop f).take (t-f))[j]? =ks[f+j]?:=by
 rw[List.getElem?_take,if_pos hj,List.getElem?_drop]
theorem ZuA {ks:List ByteArray}{f t r:Nat}{x:ByteArray}(hf:f≤r)(hr:r≤t)(ht:t≤ks.length)(h1:∀j y,f≤j→j<r→ks[j]? =some y→ltB y x=true)(h2:r<t→∀y,ks[r]? =some y→ltB y x=false):skP ks f t x=r:=by
 unfold skP
 have e:=Zpv (ks:=(ks.drop f).take (t-f)) (t:=x) (r:=r-f) (fun k y hk hy=>by
   rw[Zhv ks (by omega)] at hy
   exact h1 (f+k) y (by omega) (by omega) hy) (fun y hy=>by
   have hl:=(zgs hy).1
   rw[List.length_take,List.length_drop] at hl
   rw[Zhv ks (by omega),show f+(r-f)=r by omega] at hy
   exact h2 (by omega) y hy) (by rw[List.length_take,List.length_drop];omega)
 rw[e]
 omega
theorem Zi0 {ks:List ByteArray}{f t:Nat}(x:ByteArray)(hf:f≤t)(ht:t≤ks.length):f≤skP ks f t x∧skP ks f t x≤t∧(∀j y,f≤j→j<skP ks f t x→ks[j]? =some y→ltB y x=true)∧(skP ks f t x<t→∀y,ks[skP ks f t x]? =some y→ltB y x=false):=by
 obtain⟨s1,s2,s3⟩:=Zj5 ((ks.drop f).take (t-f)) x
 have hl:((ks.drop f).take (t-f)).length=t-f:=by rw[List.length_take,List.length_drop];omega
 rw[hl] at s1
 unfold skP
 refine⟨by omega,by omega,fun j y h1 h2 hy=>?_,fun h y hy=>?_⟩
 ·refine s2 (j-f) y (by omega) ?_
  rw[Zhv ks (by omega),show f+(j-f)=j by omega]
  exact hy
 ·refine s3 y ?_
  rw[Zhv ks (by omega)]
  exact hy
theorem Ztg {ks:List ByteArray}{f t low hi:Nat}{x:ByteArray}(h0:f≤low)(h1:low≤hi)(h2:hi≤t)(ht:t≤ks.length)(hb:∀j y,f≤j→j<low→ks[j]? =some y→ltB y x=true)(he:hi<t→low<hi∧∀y,ks[hi-1]? =some y→ltB y x=false):skP ks f t x=skP ks low hi x:=by
 obtain⟨s1,s2,s3,s4⟩:=Zi0 x h1 (show hi≤ks.length by omega)
 refine ZuA (by omega) (by omega) ht (fun j y a1 a2 hy=>?_) (fun hlt y hy=>?_)
 ·rcases Nat.lt_or_ge j low with h|h
  ·exact hb j y a1 h hy
  ·exact s3 j y h a2 hy
 ·rcases Nat.lt_or_ge (skP ks low hi x) hi with h|h
  ·exact s4 h y hy
  ·obtain⟨e1,e2⟩:=he (by omega)
   obtain⟨z,hz⟩:∃z,ks[hi-1]? =some z:=⟨_,zge (by omega)⟩
   have h5:=e2 z hz
   have h6:=s3 (hi-1) z (by omega) (by omega) hz
   rw[h6] at h5
   cases h5
theorem Zai.sub {w:World}{b o n:Nat}{ks:List ByteArray}(h:Zai w (some ⟨b,o,none⟩) n ks){f t:Nat}(hf:f≤t)(ht:t≤n):Zai w (some ⟨b,o+f,none⟩) (t-f) ((ks.drop f).take (t-f)):=by
 have hl:=h.2.1
 refine⟨by have:=h.1;omega,by rw[List.length_take,List.length_drop];omega,fun i x hx=>?_⟩
 have hi:=(zgs hx).1
 rw[List.length_take,List.length_drop] at hi
 rw[Zhv ks (by omega)] at hx
 obtain⟨b',o',e,hc⟩:=h.2.2 _ x hx
 cases e
 exact⟨b,o+f,rfl,by simpa [Zdg,Nat.add_assoc] using hc⟩
theorem Zai.nil {w:World}{a:Option Addr}:Zai w a 0 []:=⟨Nat.zero_le _,rfl,fun i x hx=>by simp at hx⟩
theorem ZuB (pt d:Nat)(ways:List (List ByteArray))(i f t:Nat)(x:ByteArray)(w:World)(h:ZbV w pt d ways)(hi:i<d)(hft:f≤t)(ht:t≤wid ways i ways.length)(hpos:0<ways.length)(hrise:∀p q a b,f≤p→p≤q→q<t→(Zcc ways i ways.length)[p]? =some a→(Zcc ways i ways.length)[q]? =some b→ltB b x=true→ltB a x=true)(hn:ways.length≤1000000):
  Calls Tryz.prog 185 #[.pointer (some ⟨pt,0,none⟩),.int .i64 (i:Int),Zna (f,t),.string x] w fun e w'=>e=.returned (.int .i64 (skP (Zcc ways i ways.length) f t x:Nat))∧Ext w w':=by
 obtain⟨g,h0,h1⟩:=h.keys
 obtain⟨ka,kc,h2,h3,h4,h5⟩:=h1 i hi
 have hwl:=Zib ways i ways.length
 have hwp:0<wid ways i ways.length:=by
  have:=ZaY ways i (show 1≤ways.length from hpos)
  have h1:wid ways i 1=_:=Zcd ways i 0
  rw[Zge,if_pos rfl,ZiY] at h1
  omega
 obtain⟨ks,hks⟩:∃ks,Zcc ways i ways.length=ks:=⟨_,rfl⟩
 have hkl:ks.length=wid ways i ways.length:=by rw[←hks,ZcM]
 rw[hks] at h3 hrise ⊢
 obtain⟨M,hM⟩:∃M,wid ways i ways.length=M:=⟨_,rfl⟩
 rw[hM] at ht h2 h3 h5 hkl hwl hwp
 obtain⟨_,kb,ko,_,e,_⟩:=h3.2.at (i:=0) hwp
 subst e
 have H3:=zh h3
 have HR:=zh hrise
 have HKL:=zh hkl
 have p1:(i:Int)<(d:Int):=by omega
 unfold Zna
 dsimp only
 clear h h1 h3 h4 hrise hks hM hkl
 go_enter Tryz.func185,Tryz.ntmps185
 go_wp2
 go_step3
 refine Zba (fun W0 hW0=>?_)
 have hE0:Ext w W0:=by rw[hW0];exact Zab zbr _
 have E0:=zh hE0
 have k0:=Zac hE0 h0
 have k1:=Zac hE0 h2
 have b0:W0.cell? ⟨w.heap.size,0,none⟩=some (.int .i64 (f:Int)):=by rw[hW0];go_simp
 have b1:W0.cell? ⟨w.heap.size,1,none⟩=some (.int .i64 (t:Int)):=by rw[hW0];go_simp
 obtain⟨B,hB⟩:∃B,w.heap.size=B:=⟨_,rfl⟩
 rw[hB] at b0 b1 ⊢
 have HS:=zh (H3.out.keep hE0)
 clear hW0 hE0 h0 h2 hB H3
 go_wp2
 go_step3
 go_upto_block 0 with (fail)
 go_cut [10,11] (fun v10 v11 wc=>wc=W0∧∃low step:Nat,f≤low∧low≤t∧1≤step∧step≤1000001∧v10=.int .i64 (low:Int)∧v11=.int .i64 (step:Int)∧(∀j y,f≤j→j<low→ks[j]? =some y→ltB y x=true)∧(low+step≤t→∀y,ks[low+step-1]? =some y→ltB y x=false))
 case first=>
  go_wp2
  go_loopw [10,11] (fun v10 v11 wj=>wj=W0∧∃low step:Nat,f≤low∧low≤t∧step+f=low+1∧v10=.int .i64 (low:Int)∧v11=.int .i64 (step:Int)∧∀j y,f≤j→j<low→ks[j]? =some y→ltB y x=true) (fun v10 _ _=>t-(intOf v10).toNat)
  case atStart=>exact⟨rfl,f,1,Nat.le_refl _,hft,by omega,rfl,rfl,fun j y h1 h2=>by omega⟩
  case round=>
   obtain⟨rfl,low,step,hl1,hl2,hst,rfl,rfl,hq⟩:=hrel
   have HQ:=zh hq
   clear hq
   by_cases hle:low+step≤t
   ·have q1:(low:Int)+(step:Int)≤(t:Int):=by omega
    obtain⟨y,b',o',hy,e,hc⟩:=HS.out.2.at (i:=low+step-1) (by omega)
    cases e
    have HY:=zh hy
    have g1:wr.cell? ⟨kb,ko+(low+step-1),none⟩=some (.string y):=by simpa [Zdg] using hc
    clear hy hc
    have q2:(low:Int)+(step:Int)-1<(M:Int):=by omega
    have q3:(0:Int)≤(low:Int)+(step:Int)-1:=by omega
    have q4:((low:Int)+(step:Int)-1).toNat=low+step-1:=by omega
    obtain⟨q,hq⟩:∃q,Op.bytesLess y.toList x.toList=q:=⟨_,rfl⟩
    have HB:Hid (ltB y x=q):=hq
    cases q with
    |true=>
     have NX:Hid (∀j z,f≤j→j<low+step→ks[j]? =some z→ltB z x=true):=fun j z h1 h2 hz=>HR.out j (low+step-1) z y h1 (by omega) (by omega) hz HY.out HB.out
     go_wp2
     go_roundw
     case rel=>exact⟨by first|trivial|rfl,low+step,step*2,by omega,hle,by omega,by go_num,by go_num,NX.out⟩
     case measure=>simp[intOf];omega
    |false=>
     go_wp2
     go_meet
     exact⟨rfl,low,step,hl1,hl2,by omega,by omega,rfl,rfl,HQ.out,fun _ z hz=>by
      have:=HY.out.symm.trans hz
      cases this
      exact HB.out⟩
   ·have q1:¬(low:Int)+(step:Int)≤(t:Int):=by omega
    go_wp2
    go_meet
    exact⟨rfl,low,step,hl1,hl2,by omega,by omega,rfl,rfl,HQ.out,fun h=>absurd h hle⟩
 case rest=>
  obtain⟨rfl,low,step,hl1,hl2,hs1,hs2,rfl,rfl,hq,hq2⟩:=hcut
  obtain⟨hi2,hhi,hhi2,hle2⟩:∃hi2:Nat,(low+step≤t→hi2=low+step)∧(¬low+step≤t→hi2=t)∧low≤hi2∧hi2≤t:=by
   by_cases h:low+step≤t
   ·exact⟨low+step,fun _=>rfl,fun h2=>absurd h h2,by omega,h⟩
   ·exact⟨t,fun h2=>absurd h2 h,fun _=>rfl,hl2,Nat.le_refl _⟩
  have SK:Hid (skP ks f t x=skP ks low hi2 x):=Ztg hl1 hle2.1 hle2.2 (by have:=HKL.out;omega) hq (fun hlt=>by
   by_cases h:low+step≤t
   ·obtain rfl:=hhi h
    exact⟨by omega,hq2 h⟩
   ·have:=hhi2 h
    omega)
  have CT:Hid (CutS ((ks.drop low).take (hi2-low)) x):=fun p q a b hpq ha hb hlt=>by
   have la:=(zgs ha).1
   have lb:=(zgs hb).1
   rw[List.length_take,List.length_drop] at la lb
   rw[Zhv ks (by omega)] at ha hb
   exact HR.out (low+p) (low+q) a b (by omega) (by omega) (by omega) ha hb hlt
  have ST:Hid (Zai wc (some ⟨kb,ko+low,none⟩) (hi2-low) ((ks.drop low).take (hi2-low))):=HS.out.sub hle2.1 (by omega)
  obtain⟨hle3,hle4⟩:=hle2
  have q0:(low:Int)≤(kc:Int):=by omega
  have q1:(hi2:Int)≤(kc:Int):=by omega
  have q2:(low:Int)≤(hi2:Int):=by omega
  have q3:(hi2:Int)≤(M:Int):=by omega
  have BS:Hid (∀a' c',(low<hi2→a'=some ⟨kb,ko+low,none⟩)→Calls Tryz.prog 193 #[.slice a' (hi2-low) c',.string x] wc fun e w'=>e=.returned (.tuple #[.int .i64 (Zng ((ks.drop low).take (hi2-low)) x:Nat),.bool (Zhu ((ks.drop low).take (hi2-low)) x)])∧w'=wc):=fun a' c' ha=>by
   rcases Nat.lt_or_ge low hi2 with h|h
   ·rw[ha h]
    exact c_bs _ _ _ _ _ _ ST.out CT.out (by omega)
   ·have e:hi2-low=0:=by omega
    rw[e,List.take_zero]
    exact c_bs _ _ _ _ _ _ Zai.nil (fun p q a b _ ha=>by simp at ha) (by omega)
  have SK2:Hid (skP ks f t x=low+Zng ((ks.drop low).take (hi2-low)) x):=SK.out
  obtain⟨r,hr⟩:∃r,Zng ((ks.drop low).take (hi2-low)) x=r:=⟨_,rfl⟩
  obtain⟨fo,hfo⟩:∃fo,Zhu ((ks.drop low).take (hi2-low)) x=fo:=⟨_,rfl⟩
  rw[hr] at BS SK2
  rw[hfo] at BS
  have hrl:r≤1000000:=by
   have:=(Zj5 ((ks.drop low).take (hi2-low)) x).1
   rw[hr,List.length_take] at this
   omega
  clear hq hq2 hr hfo
  have hmin:(min ((low:Int)+(step:Int)) (t:Int)).toNat=hi2:=by
   by_cases h:low+step≤t
   ·have:=hhi h
    omega
   ·have:=hhi2 h
    omega
  have l1:(low:Int)≤min ((low:Int)+(step:Int)) (t:Int):=by omega
  have l2:min ((low:Int)+(step:Int)) (t:Int)≤(kc:Int):=by omega
  have l3:(0:Int)≤min ((low:Int)+(step:Int)) (t:Int):=by omega
  clear hhi hhi2
  by_cases hc:low=kc
  ·subst hc
   have BS2:=zh (fun a' c'=>BS.out a' c' (fun h=>by omega))
   go_wp2_with (go_at_call 193;(with_reducible refine(BS2.out _ _).mono ?_);rintro e w1 ⟨rfl,hw1⟩;obtain rfl:=hw1.symm)
   rw[Exit.noGoto_ret]
   go_ret
   exact⟨ZcN (by rw[SK2.out];rfl),E0.out⟩
  ·have hc2:¬kc=low:=fun e=>hc e.symm
   have BS2:=zh (BS.out (some ⟨kb,ko+low,none⟩) (kc-low) (fun _=>rfl))
   go_wp2_with (go_at_call 193;(with_reducible refine BS2.out.mono ?_);rintro e w1 ⟨rfl,hw1⟩;obtain rfl:=hw1.symm)
   rw[Exit.noGoto_ret]
   go_ret
   exact⟨ZcN (by rw[SK2.out];rfl),E0.out⟩
structure Seg (ways:List (List ByteArray))(i A B:Nat):Prop where
 le:A≤B
 top:B≤ways.length
 sa:ZrI ways i A
 sb:ZrI ways i B
 same:∀m,A≤m→m<B→(Za9 ways m).take i=(Za9 ways A).take i
theorem Zmg (ways:List (List ByteArray)):Seg ways 0 0 ways.length:=⟨Nat.zero_le _,Nat.le_refl _,by
  rcases Nat.eq_zero_or_pos ways.length with h|h
  ·exact .inl h.symm
  ·exact .inr ⟨h,rfl⟩,.inl rfl,fun m _ _=>rfl⟩
theorem Zj6 (ways:List (List ByteArray))(i j:Nat)(hj:j<wid ways i ways.length):Seg ways (i+1) (st ways i j) (st ways i (j+1)):=
 ⟨Zk6 ways i (Nat.le_succ j) hj,Zva ways i _,(Zpn ways i j).up (Nat.le_succ i),(Zpn ways i (j+1)).up (Nat.le_succ i),fun m h1 h2=>(Ztb ways i j m hj h1 h2).2⟩
theorem Seg.place {ways:List (List ByteArray)}{i A B:Nat}(h:Seg ways i A B){p:Nat}(h1:wid ways i A≤p)(h2:p<wid ways i B):A≤st ways i p∧st ways i p<B∧p<wid ways i ways.length:=by
 have hb:=ZaY ways i h.top
 have e1:=ZrJ ways i h.sa
 have e2:=ZrJ ways i h.sb
 have m1:=Zk6 ways i h1 (by omega)
 have m2:=Zpm ways i h2 hb
 rw[e1] at m1
 rw[e2] at m2
 exact⟨m1,m2,by omega⟩
theorem Zth (ways:List (List ByteArray))(i p:Nat)(h:p<wid ways i ways.length):nd ways i (st ways i p)=p:=by
 have:=Zdl ways i p h
 have h2:=Zcd ways i (st ways i p)
 rw[if_pos this.2.1,this.2.2] at h2
 unfold nd
 omega
theorem Zdf {d:Nat}{ways:List (List ByteArray)}(h:ZcE d ways){i m:Nat}(hm:m<ways.length)(hi:i<d):(Za9 ways m).take (i+1)=(Za9 ways m).take i++[ZbP ways i m]:=by
 have hl:=(h.at hm).2
 obtain⟨x,hx⟩:∃x,(Za9 ways m)[i]? =some x:=⟨_,zge (by omega)⟩
 rw[ZaA hx]
 unfold ZbP
 rw[hx]
 rfl
theorem Seg.rise {d:Nat}{ways:List (List ByteArray)}(hw:ZcE d ways){i A B:Nat}(h:Seg ways i A B)(hi:i<d){p q:Nat}(h1:wid ways i A≤p)(hpq:p<q)(h2:q<wid ways i B):ltB (ZbP ways i (st ways i p)) (ZbP ways i (st ways i q))=true:=by
 obtain⟨a1,a2,a3⟩:=h.place h1 (by omega:p<wid ways i B)
 obtain⟨b1,b2,b3⟩:=h.place (by omega:wid ways i A≤q) h2
 have hlt:=Zpm ways i hpq (by omega)
 have hq:=Nat.lt_of_lt_of_le b2 h.top
 refine hw.key_lt hi hlt hq ((h.same _ a1 a2).trans (h.same _ b1 b2).symm) (fun e=>?_)
 have:=(hw.nd_iff (by omega) hq).1 e
 rw[Zth ways i p a3,Zth ways i q b3] at this
 omega
theorem Seg.cut {d:Nat}{ways:List (List ByteArray)}(hw:ZcE d ways){i A B:Nat}(h:Seg ways i A B)(hi:i<d)(x:ByteArray){f:Nat}(hf:wid ways i A≤f):∀p q a b,f≤p→p≤q→q<wid ways i B→(Zcc ways i ways.length)[p]? =some a→(Zcc ways i ways.length)[q]? =some b→ltB b x=true→ltB a x=true:=by
 intro p q a b hp hpq hq ha hb hlt
 rcases Nat.lt_or_ge p q with h1|h1
 ·have w1:=ZaY ways i h.top
  rw[ZfG ways i p (by omega)] at ha
  rw[ZfG ways i q (by omega)] at hb
  cases ha
  cases hb
  exact Zbp (h.rise hw hi (by omega) h1 hq) hlt
 ·obtain rfl:p=q:=by omega
  rw[ha] at hb
  cases hb
  exact hlt
