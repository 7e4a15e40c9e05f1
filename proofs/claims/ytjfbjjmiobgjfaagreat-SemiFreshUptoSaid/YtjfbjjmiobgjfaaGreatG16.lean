/- The document's Compare, texts, find, Below (layer 3). -/
import Derived.Test.YtjfbjjmiobgjfaaGreatG4
set_option maxRecDepth 100000
set_option maxHeartbeats 8000000
namespace Go.Proofs.YtjfbjjmiobgjfaaGreat
open ChangeShapes WideShapes ChangeAt RowKit
theorem ZpS (x y:ByteArray)(xs ys:List ByteArray):Zaj (x::xs) (y::ys)=if ltB x y=true then -1 else if ltB y x=true then 1 else Zaj xs ys:=by
 show (if ZfI x y≠0 then ZfI x y else Zaj xs ys)=_
 unfold ZfI
 rcases Zfl x y with h|h|h
 ·simp[h]
 ·subst h
  have h1:¬ltB x x=true:=Zbb x
  simp[h1]
 ·have h1:¬ltB x y=true:=fun q=>Zbb _ (Zbp h q)
  have h2:¬x=y:=fun e=>by subst e;exact Zbb _ h
  simp[h1,h2,h]
theorem Zd5 (xs ys:List ByteArray)(aa:Option Addr)(n cap:Nat)(ab:Option Addr)(m cb:Nat)(w:World)(ha:Zai w aa n xs)(hb:Zai w ab m ys):
  Calls Tryz.prog 120 #[.slice aa n cap,.slice ab m cb] w fun e w'=>e=.returned (.int .i64 (Zaj xs ys))∧∃q,w'=w.drewN q:=by
 have HA:=zh ha
 have HB:=zh hb
 have HL:=zh ha.2.1
 have HM:=zh hb.2.1
 have hn:n≤9223372036854775807:=ha.1
 have hm:m≤9223372036854775807:=hb.1
 clear ha hb
 obtain⟨R,hR⟩:∃R,R=Zaj xs ys:=⟨_,rfl⟩
 rw[←hR]
 have FIN:=zh hR
 clear hR
 go_enter Tryz.func120,Tryz.ntmps120
 go_wp2
 go_loopw [5] (fun i wj=>∃k q:Nat,k≤n∧k≤m∧i=.int .i64 (k:Int)∧wj=w.drewN q∧R=Zaj (xs.drop k) (ys.drop k)) (fun i _=>n-(intOf i).toNat)
 case atStart=>exact⟨0,0,by omega,by omega,rfl,rfl,by rw[FIN.out,List.drop_zero,List.drop_zero]⟩
 case round=>
  obtain⟨k,q,hk,hkm,rfl,hw,hq⟩:=hrel
  have HW:=zh hw
  have EW:Hid (Ext w wr):=by show Ext _ _;rw[hw];exact Zae zbr q
  have HQ:=zh hq
  clear hq hw
  by_cases hlt:k<n
  ·have hki:(k:Int)<(n:Int):=by omega
   obtain⟨x,b1,o1,hx,rfl,h1⟩:=(HA.out.keep EW.out).2.at hlt
   have HX:=zh (Zbn hx)
   have g1:wr.cell? ⟨b1,o1+k,none⟩=some (.string x):=by simpa [Zdg] using h1
   clear hx h1
   by_cases hlm:k<m
   ·have hkmi:(k:Int)<(m:Int):=by omega
    obtain⟨y,b2,o2,hy,rfl,h2⟩:=(HB.out.keep EW.out).2.at hlm
    have HY:=zh (Zbn hy)
    have g2:wr.cell? ⟨b2,o2+k,none⟩=some (.string y):=by simpa [Zdg] using h2
    clear hy h2
    obtain⟨p,hp⟩:∃p,Op.bytesLess x.toList y.toList=p:=⟨_,rfl⟩
    obtain⟨p2,hp2⟩:∃p,Op.bytesLess y.toList x.toList=p:=⟨_,rfl⟩
    have HC:Hid (R=if p=true then -1 else if p2=true then 1 else Zaj (xs.drop (k+1)) (ys.drop (k+1))):=by
     show _=_
     rw[HQ.out,HX.out,HY.out,ZpS]
     unfold ltB
     rw[hp,hp2]
    have D:Hid (∀q2,∃q3,wr.drewN q2=w.drewN q3):=fun q2=>⟨q+q2,by rw[HW.out,World.drewN_drewN]⟩
    have D2:Hid (∀q2 q4,∃q3,(wr.drewN q2).drewN q4=w.drewN q3):=fun q2 q4=>⟨q+(q2+q4),by rw[HW.out,World.drewN_drewN,World.drewN_drewN]⟩
    cases p with
    |true=>
     go_wp2
     go_quiet (fail)
     go_wp2
     go_returns
     exact⟨by rw[HC.out];rfl,D.out _⟩
    |false=>
     cases p2 with
     |true=>
      have hne:(x.toList==y.toList)=false:=beq_eq_false_iff_ne.mpr (fun e=>by rw[e] at hp hp2;rw[hp] at hp2;cases hp2)
      go_wp2
      go_quiet (fail)
      go_wp2
      go_quiet (fail)
      go_wp2
      go_returns
      exact⟨by rw[HC.out];rfl,by first|exact D.out _|exact D2.out _ _⟩
     |false=>
      have hne:(x.toList==y.toList)=true:=by
       rcases Zfl x y with h|h|h
       ·unfold ltB at h;rw[hp] at h;cases h
       ·subst h;simp
       ·unfold ltB at h;rw[hp2] at h;cases h
      go_wp2
      go_quiet (fail)
      go_wp2
      go_quiet (fail)
      go_wp2
      go_roundw
      case rel=>
       obtain⟨q3,e3⟩:=D.out _
       exact⟨k+1,q3,by omega,by omega,by go_num,e3,by rw[HC.out];rfl⟩
      case measure=>simp[intOf];omega
   ·obtain rfl:k=m:=by omega
    have hge:¬(k:Int)<(k:Int):=by omega
    have hlt2:¬(n:Int)<(k:Int):=by omega
    have HY:Hid (R=1):=by
     show _=_
     have tk:ys.drop k=[]:=List.drop_of_length_le (by have:=HM.out;omega)
     rw[HQ.out,HX.out,tk]
     rfl
    go_wp2
    go_returns
    exact⟨by rw[HY.out];rfl,q,HW.out⟩
  ·obtain rfl:k=n:=by omega
   have hge:¬(k:Int)<(k:Int):=by omega
   by_cases hlm:k<m
   ·have hkmi:(k:Int)<(m:Int):=by omega
    obtain⟨y,b2,o2,hy,rfl,h2⟩:=(HB.out.keep EW.out).2.at hlm
    have HY:Hid (R=-1):=by
     show _=_
     have tk:xs.drop k=[]:=List.drop_of_length_le (by have:=HL.out;omega)
     rw[HQ.out,tk,Zbn hy]
     rfl
    clear hy h2
    go_wp2
    go_returns
    exact⟨by rw[HY.out];rfl,q,HW.out⟩
   ·obtain rfl:k=m:=by omega
    have HY:Hid (R=0):=by
     show _=_
     have tk:xs.drop k=[]:=List.drop_of_length_le (by have:=HL.out;omega)
     have tm:ys.drop k=[]:=List.drop_of_length_le (by have:=HM.out;omega)
     rw[HQ.out,tk,tm]
     rfl
    go_wp2
    go_returns
    exact⟨by rw[HY.out];rfl,q,HW.out⟩
theorem Zks (xs:List ByteArray)(aa:Option Addr)(n cap:Nat)(w:World)(ha:Zai w aa n xs):
  Calls Tryz.prog 84 #[.slice aa n cap] w fun e w'=>e=.returned (.bool (ZaP xs))∧∃q,w'=w.drewN q:=by
 have HA:=zh ha
 have HL:=zh ha.2.1
 have hn:n≤9223372036854775807:=ha.1
 clear ha
 obtain⟨R,hR⟩:∃R,R=ZaP xs:=⟨_,rfl⟩
 rw[←hR]
 have FIN:=zh hR
 clear hR
 go_enter Tryz.func84,Tryz.ntmps84
 go_wp2
 go_loopw [3] (fun i wj=>∃k q:Nat,k≤n∧i=.int .i64 (k:Int)∧wj=w.drewN q∧R=ZaP (xs.drop k)) (fun i _=>n-(intOf i).toNat)
 case atStart=>exact⟨0,0,by omega,rfl,rfl,by rw[FIN.out,List.drop_zero]⟩
 case round=>
  obtain⟨k,q,hk,rfl,hw,hq⟩:=hrel
  have HW:=zh hw
  have EW:Hid (Ext w wr):=by show Ext _ _;rw[hw];exact Zae zbr q
  have HQ:=zh hq
  clear hq hw
  by_cases hlt:k<n
  ·have hki:(k:Int)<(n:Int):=by omega
   obtain⟨x,b1,o1,hx,rfl,h1⟩:=(HA.out.keep EW.out).2.at hlt
   have HX:=zh (Zbn hx)
   have g1:wr.cell? ⟨b1,o1+k,none⟩=some (.string x):=by simpa [Zdg] using h1
   clear hx h1
   have D:Hid (∀q2,∃q3,wr.drewN q2=w.drewN q3):=fun q2=>⟨q+q2,by rw[HW.out,World.drewN_drewN]⟩
   obtain⟨p,hp⟩:∃p,decide (4096<x.size)=p:=⟨_,rfl⟩
   have hp2:decide ((4096:Int)<(x.size:Int))=p:=by
    rw[←hp]
    simp only[decide_eq_decide]
    omega
   have HC:Hid (R=(!p&&ZaP (xs.drop (k+1)))):=by
    show _=_
    rw[HQ.out,HX.out,←hp]
    unfold ZaP
    rw[List.any_cons,Bool.not_or]
   clear hp
   cases p with
   |true=>
    have hp3:(4096:Int)<(x.size:Int):=of_decide_eq_true hp2
    clear hp2
    go_wp2
    go_returns
    exact⟨ZaS (by rw[HC.out];rfl),q,HW.out⟩
   |false=>
    have hp3:¬(4096:Int)<(x.size:Int):=of_decide_eq_false hp2
    clear hp2
    go_wp2
    go_roundw
    case rel=>exact⟨k+1,q,by omega,by go_num,HW.out,by rw[HC.out];rfl⟩
    case measure=>simp[intOf];omega
  ·obtain rfl:k=n:=by omega
   have hge:¬(k:Int)<(k:Int):=by omega
   have HY:Hid (R=true):=by
    show _=_
    have tk:xs.drop k=[]:=List.drop_of_length_le (by have:=HL.out;omega)
    rw[HQ.out,tk]
    rfl
   go_wp2
   go_returns
   exact⟨ZaS (by rw[HY.out]),q,HW.out⟩
def Zcn:List (List ByteArray)→List ByteArray→Nat→Int
 |[],_,_=> -1
 |r::rs,t,k=>if Zaj r t=0 then (k:Int) else Zcn rs t (k+1)
theorem ZhN (r t:List ByteArray)(rs:List (List ByteArray))(k:Nat):Zcn (r::rs) t k=if Zaj r t=0 then (k:Int) else Zcn rs t (k+1):=rfl
theorem Zji (t:List ByteArray):∀(rs:List (List ByteArray)) (k:Nat),0≤Zcn rs t k↔t∈rs
 |[],k=>by simp[Zcn]
 |r::rs,k=>by
  unfold Zcn
  by_cases h:Zaj r t=0
  ·rw[if_pos h]
   have:=(ZaH r t).1 h
   subst this
   simp
  ·rw[if_neg h,Zji t rs (k+1),List.mem_cons]
   constructor
   ·exact .inr
   ·rintro (e|e)
    ·exact absurd ((ZaH r t).2 e.symm) h
    ·exact e
def Zhw (rs:List (List ByteArray))(t:List ByteArray):Nat:=(rs.filter fun r=>decide (Zaj r t<0)).length
theorem Znw (r:List ByteArray)(rs:List (List ByteArray))(t:List ByteArray):Zhw (r::rs) t=(if Zaj r t<0 then 1 else 0)+Zhw rs t:=by
 unfold Zhw
 by_cases h:Zaj r t<0
 ·rw[if_pos h,List.filter_cons_of_pos (by simpa using h),List.length_cons];omega
 ·rw[if_neg h,List.filter_cons_of_neg (by simpa using h)];omega
theorem Znx (rs:List (List ByteArray))(t:List ByteArray):Zhw rs t≤rs.length:=List.length_filter_le _ _
theorem Zlo {rs:List (List ByteArray)}(h:Zbg rs)(t:List ByteArray):Zhw rs t=ZdK rs t:=by
 obtain⟨h1,h2,h3⟩:=ZdP h t
 have e:rs=rs.take (ZdK rs t)++rs.drop (ZdK rs t):=(List.take_append_drop _ _).symm
 unfold Zhw
 conv=>lhs;rw[e]
 rw[List.filter_append,List.length_append]
 have a1:(rs.take (ZdK rs t)).filter (fun r=>decide (Zaj r t<0))=rs.take (ZdK rs t):=by
  rw[List.filter_eq_self]
  intro x hx
  obtain⟨k,hk⟩:=List.getElem?_of_mem hx
  rw[List.getElem?_take] at hk
  split at hk
  ·rename_i hk2
   exact decide_eq_true (h2 k x hk2 hk)
  ·cases hk
 have a2:(rs.drop (ZdK rs t)).filter (fun r=>decide (Zaj r t<0))=[]:=by
  rw[List.filter_eq_nil_iff]
  intro x hx
  obtain⟨k,hk⟩:=List.getElem?_of_mem hx
  rw[List.getElem?_drop] at hk
  have:=h3 _ x (by omega) hk
  simpa using this
 rw[a1,a2,List.length_take]
 simp
 omega
theorem Zdc (pb:Nat)(w:World):(binOp .eql 44 (.pointer (some ⟨pb,0,none⟩)) (.pointer none)).run Tryz.prog w=.ok (.bool false) w:=by kernel_rfl
theorem Zlp (rs:List (List ByteArray))(t:List ByteArray)(pb:Nat)(a:Option Addr)(n cap:Nat)(ab:Option Addr)(m cb:Nat)(w:World)(hi:w.cell? ⟨pb,1,none⟩=some (.slice a n cap))(ha:Zcp w a n rs)(hb:Zai w ab m t):
  Calls Tryz.prog 85 #[.pointer (some ⟨pb,0,none⟩),.slice ab m cb] w fun e w'=>e=.returned (.int .i64 (Zcn rs t 0))∧∃q,w'=w.drewN q:=by
 have HA:=zh ha
 have HB:=zh hb
 have HL:=zh ha.2.1
 have hn:n≤9223372036854775807:=ha.1
 have HI:=zh hi
 clear ha hb
 obtain⟨R,hR⟩:∃R,R=Zcn rs t 0:=⟨_,rfl⟩
 rw[←hR]
 have FIN:=zh hR
 clear hR
 have hnil:=Zdc pb
 go_enter Tryz.func85,Tryz.ntmps85
 go_wp2
 go_loopw [5] (fun i wj=>∃k q:Nat,k≤n∧i=.int .i64 (k:Int)∧wj=w.drewN q∧R=Zcn (rs.drop k) t k) (fun i _=>n-(intOf i).toNat)
 case atStart=>exact⟨0,0,by omega,rfl,rfl,by rw[FIN.out,List.drop_zero]⟩
 case round=>
  obtain⟨k,q,hk,rfl,hw,hq⟩:=hrel
  have HW:=zh hw
  have EW:Hid (Ext w wr):=by show Ext _ _;rw[hw];exact Zae zbr q
  have gi:wr.cell? ⟨pb,1,none⟩=some (.slice a n cap):=Zac EW.out HI.out
  have HQ:=zh hq
  clear hq hw hi
  by_cases hlt:k<n
  ·have hki:(k:Int)<(n:Int):=by omega
   obtain⟨x,b1,o1,hx,rfl,h1⟩:=(HA.out.keep EW.out).2.at hlt
   have HX:=zh (Zbn hx)
   obtain⟨a2,n2,c2,g1,h2⟩:=h1
   rw[Nat.mul_one] at g1
   have CM:Hid (Calls Tryz.prog 120 #[.slice a2 n2 c2,.slice ab m cb] wr fun e w'=>e=.returned (.int .i64 (Zaj x t))∧∃q2,w'=wr.drewN q2):=Zd5 x t a2 n2 c2 ab m cb _ h2 (HB.out.keep EW.out)
   have D:Hid (∀q2,∃q3,wr.drewN q2=w.drewN q3):=fun q2=>⟨q+q2,by rw[HW.out,World.drewN_drewN]⟩
   clear hx h2
   obtain⟨p,hp⟩:∃p,(Zaj x t==0)=p:=⟨_,rfl⟩
   have HC:Hid (R=if p=true then (k:Int) else Zcn (rs.drop (k+1)) t (k+1)):=by
    show _=_
    rw[HQ.out,HX.out,←hp,ZhN]
    simp only[beq_iff_eq]
   cases p with
   |true=>
    go_wp2_with (go_at_call 120;(with_reducible refine CM.out.mono ?_);rintro e w1 ⟨rfl,q2,rfl⟩)
    go_returns
    exact⟨by rw[HC.out];rfl,D.out _⟩
   |false=>
    go_wp2_with (go_at_call 120;(with_reducible refine CM.out.mono ?_);rintro e w1 ⟨rfl,q2,rfl⟩)
    go_roundw
    case rel=>
     obtain⟨q3,e3⟩:=D.out _
     exact⟨k+1,q3,by omega,by go_num,e3,by rw[HC.out];rfl⟩
    case measure=>simp[intOf];omega
  ·obtain rfl:k=n:=by omega
   have hge:¬(k:Int)<(k:Int):=by omega
   have HY:Hid (R=-1):=by
    show _=_
    have tk:rs.drop k=[]:=List.drop_of_length_le (by have:=HL.out;omega)
    rw[HQ.out,tk]
    rfl
   go_wp2
   go_returns
   exact⟨by rw[HY.out];rfl,q,HW.out⟩
theorem Zr5 (rs:List (List ByteArray))(t:List ByteArray)(pb:Nat)(a:Option Addr)(n cap:Nat)(ab:Option Addr)(m cb:Nat)(w:World)(hi:w.cell? ⟨pb,1,none⟩=some (.slice a n cap))(ha:Zcp w a n rs)(hb:Zai w ab m t):
  Calls Tryz.prog 86 #[.pointer (some ⟨pb,0,none⟩),.slice ab m cb] w fun e w'=>e=.returned (.int .i64 (Zhw rs t:Nat))∧∃q,w'=w.drewN q:=by
 have HA:=zh ha
 have HB:=zh hb
 have HL:=zh ha.2.1
 have hn:n≤9223372036854775807:=ha.1
 have HI:=zh hi
 clear ha hb
 obtain⟨R,hR⟩:∃R,R=Zhw rs t:=⟨_,rfl⟩
 rw[←hR]
 have FIN:=zh hR
 clear hR
 have hnil:=Zdc pb
 go_enter Tryz.func86,Tryz.ntmps86
 go_wp2
 go_loopw [6,5] (fun i s wj=>∃k q c:Nat,k≤n∧c≤k∧i=.int .i64 (k:Int)∧s=.int .i64 (c:Int)∧wj=w.drewN q∧R=c+Zhw (rs.drop k) t) (fun i _ _=>n-(intOf i).toNat)
 case atStart=>exact⟨0,0,0,by omega,by omega,rfl,rfl,rfl,by rw[FIN.out,List.drop_zero];omega⟩
 case round=>
  obtain⟨k,q,c,hk,hck,rfl,rfl,hw,hq⟩:=hrel
  have HW:=zh hw
  have EW:Hid (Ext w wr):=by show Ext _ _;rw[hw];exact Zae zbr q
  have gi:wr.cell? ⟨pb,1,none⟩=some (.slice a n cap):=Zac EW.out HI.out
  have HQ:=zh hq
  clear hq hw hi
  by_cases hlt:k<n
  ·have hki:(k:Int)<(n:Int):=by omega
   obtain⟨x,b1,o1,hx,rfl,h1⟩:=(HA.out.keep EW.out).2.at hlt
   have HX:=zh (Zbn hx)
   obtain⟨a2,n2,c2,g1,h2⟩:=h1
   rw[Nat.mul_one] at g1
   have CM:Hid (Calls Tryz.prog 120 #[.slice a2 n2 c2,.slice ab m cb] wr fun e w'=>e=.returned (.int .i64 (Zaj x t))∧∃q2,w'=wr.drewN q2):=Zd5 x t a2 n2 c2 ab m cb _ h2 (HB.out.keep EW.out)
   have D:Hid (∀q2,∃q3,wr.drewN q2=w.drewN q3):=fun q2=>⟨q+q2,by rw[HW.out,World.drewN_drewN]⟩
   clear hx h2
   have HC:Hid (R=c+((if Zaj x t<0 then 1 else 0)+Zhw (rs.drop (k+1)) t)):=by
    show _=_
    rw[HQ.out,HX.out,Znw]
   by_cases hp:Zaj x t<0
   ·go_wp2_with (go_at_call 120;(with_reducible refine CM.out.mono ?_);rintro e w1 ⟨rfl,q2,rfl⟩)
    go_roundw
    case rel=>
     obtain⟨q3,e3⟩:=D.out _
     exact⟨k+1,q3,c+1,by omega,by omega,by go_num,by go_num,e3,by rw[HC.out,if_pos hp];omega⟩
    case measure=>simp[intOf];omega
   ·go_wp2_with (go_at_call 120;(with_reducible refine CM.out.mono ?_);rintro e w1 ⟨rfl,q2,rfl⟩)
    go_roundw
    case rel=>
     obtain⟨q3,e3⟩:=D.out _
     exact⟨k+1,q3,c,by omega,by omega,by go_num,rfl,e3,by rw[HC.out,if_neg (by omega)];omega⟩
    case measure=>simp[intOf];omega
  ·obtain rfl:k=n:=by omega
   have hge:¬(k:Int)<(k:Int):=by omega
   have HY:Hid (R=c):=by
    show _=_
    have tk:rs.drop k=[]:=List.drop_of_length_le (by have:=HL.out;omega)
    rw[HQ.out,tk]
    rfl
   go_wp2
   go_returns
   exact⟨by rw[HY.out];rfl,q,HW.out⟩
theorem Zlq (xs:List ByteArray)(a:Option Addr)(n cap:Nat)(w:World)(h:Zai w a n xs)(hn:n≤8796093022207)(hc:a=none→n=0∧cap=0):
  Calls Tryz.prog 44 #[.slice a n cap] w fun e w'=>∃a' c',e=.returned (.slice a' n c')∧w'.ownsRow w.heap.size 9 1 (.slice a' n c') n (xs.map Value.string)∧Ext w w':=by
 obtain⟨i0,hi,hz0,hz1,hz2⟩:=info_parts ZbI
 obtain⟨il,ic,io⟩:=ZgQ h
 have IL:=zh il
 have IC:=zh ic
 have IO:=zh io
 have HC:=zh hc
 have H3:Hid (0+n≤maxLen):=by show _≤_;unfold maxLen;omega
 have H4:Hid ((0+n)*16≤140737488355328):=by show _≤_;omega
 have HO:Hid (w.ownsRow w.heap.size 9 1 (.slice none 0 0) 0 []):=World.ownsRow_nil _ _ _ _
 clear il ic io h hc
 go_enter Tryz.func44,Tryz.ntmps44
 go_wp2_with (at_builtin;go_loud (refine Zas rfl _ _ 54 rfl w.heap.size 9 i0 (.string ⟨#[]⟩) 1 16 Tryz.underlying54 hi hz0 hz1 hz2 rfl (by decide) _ _ _ rfl HO.out a n cap (xs.map Value.string) rfl HC.out IL.out IC.out IO.out H3.out H4.out (Nat.le_refl _) ?_);intro v1 w1 own1 g1)
 obtain⟨a1,c1,rfl,_⟩:=Zag own1
 have hb:=Zaz (Below.refl _ w:Ext w w) g1 (by intro g e;cases e)
 go_returns
 rw[Nat.zero_add,List.nil_append] at own1
 exact⟨a1,c1,by rw[Nat.zero_add];rfl,own1,hb⟩
structure ZbH (w:World)(lo pb ar:Nat)(rs:List (List ByteArray)):Prop where
 lt:pb<lo
 c0:w.cell? ⟨pb,0,none⟩=some (.int .i64 (ar:Int))
 free:w.frozen? ⟨pb,1,none⟩=false
 row:∃(a:Option Addr) (c:Nat) (vs:List Value),w.cell? ⟨pb,1,none⟩=some (.slice a rs.length c)∧w.ownsRow lo 54 1 (.slice a rs.length c) rs.length vs∧Zax lo w vs rs
theorem Zax.itemsD {w:World}{lo:Nat}{a:Option Addr}{c:Nat}{vs:List Value}{rs:List (List ByteArray)}(h2:w.ownsRow lo 54 1 (.slice a rs.length c) rs.length vs)(h3:Zax lo w vs rs)(hn:rs.length≤maxLen):Zcp w a rs.length rs:=by
 refine⟨hn,rfl,fun i r hr=>?_⟩
 have hl:=h2.1
 have hi:=(zgs hr).1
 obtain⟨v,hv⟩:∃v,vs[i]? =some v:=⟨_,zge (by omega)⟩
 have h5:=h3.2 i r v hr hv
 obtain⟨a',c',rfl,_⟩:=Zag h5
 have h4:=ZaL h5 (Za4 h5).1
 rcases h2.2 with⟨e1,e2⟩|⟨g,c1,cur,e1,_⟩
 ·omega
 ·cases e1
  have:=h2.cells (g:=g) rfl i _ hv
  rw[Addr.add_lit] at this
  exact⟨g,0,rfl,a',r.length,c',by rw[Nat.mul_one];exact this,h4⟩
def Zjj (ar:Nat)(rs:List (List ByteArray))(t:List ByteArray):Int:=if t.length≠ar then 30 else if ZaP t=false then 31 else if 0≤Zcn rs t 0 then 0 else if 65536≤rs.length then 4 else 0
def Ziq (ar:Nat)(rs:List (List ByteArray))(t:List ByteArray):Bool:=decide (t.length=ar)&&ZaP t&&!decide (0≤Zcn rs t 0)&&decide (rs.length<65536)
def Zjk (ar:Nat)(rs:List (List ByteArray))(t:List ByteArray):List (List ByteArray):=if Ziq ar rs t=true then rs.take (Zhw rs t)++t::rs.drop (Zhw rs t) else rs
theorem Zjl (lo pb ar:Nat)(rs:List (List ByteArray))(t:List ByteArray)(a:Option Addr)(n c:Nat)(w:World)(h:ZbH w lo pb ar rs)(hl:rs.length≤65536)(har:ar≤64)(ht:Zai w a n t)(hno:Ziq ar rs t=false):
  Calls Tryz.prog 38 #[.pointer (some ⟨pb,0,none⟩),.slice a n c] w fun e w'=>e=.returned (.tuple #[.bool false,.int .i64 (Zjj ar rs t)])∧∃q,w'=w.drewN q:=by
 have c0:=h.c0
 obtain⟨ra,rc,vs,c1,o1,r1⟩:=h.row
 have hi:Zcp w ra rs.length rs:=Zax.itemsD o1 r1 (by unfold maxLen;omega)
 have hnil:=Zdc pb
 have hn:=ht.2.1
 have hn0:n≤9223372036854775807:=ht.1
 have FD:Hid (∀q,Calls Tryz.prog 85 #[.pointer (some ⟨pb,0,none⟩),.slice a n c] (w.drewN q) fun e w'=>e=.returned (.int .i64 (Zcn rs t 0))∧∃q2,w'=(w.drewN q).drewN q2):=fun q=>Zlp rs t pb ra rs.length rc a n c _ (Zac (Zae zbr q) c1) (hi.keep (Zae zbr q)) (ht.keep (Zae zbr q))
 have TX:Hid (Calls Tryz.prog 84 #[.slice a n c] w fun e w'=>e=.returned (.bool (ZaP t))∧∃q2,w'=w.drewN q2):=Zks t a n c _ ht
 have C2:Hid (∀q,(w.drewN q).cell? ⟨pb,1,none⟩=some (.slice ra rs.length rc)):=fun q=>Zac (Zae zbr q) c1
 have C1:Hid (∀q q2,((w.drewN q).drewN q2).cell? ⟨pb,1,none⟩=some (.slice ra rs.length rc)):=fun q q2=>Zac (Zae (Zae zbr q) q2) c1
 obtain⟨F,hF⟩:∃F,Zcn rs t 0=F:=⟨_,rfl⟩
 obtain⟨M,hM⟩:∃M,ZaP t=M:=⟨_,rfl⟩
 obtain⟨L,hL⟩:∃L,rs.length=L:=⟨_,rfl⟩
 have AE:Hid (Zjj ar rs t=if n≠ar then 30 else if M=false then 31 else if 0≤F then 0 else if 65536≤L then 4 else 0):=by
  show _=_
  unfold Zjj
  rw[hF,hM,hL,hn]
 have AB:Hid ((decide (n=ar)&&M&&!decide (0≤F)&&decide (L<65536))=false):=by
  show _=_
  rw[←hno]
  unfold Ziq
  rw[hF,hM,hL,hn]
 rw[hF] at FD
 rw[hM] at TX
 rw[hL] at C1 C2 c1
 clear h hl ht hno o1 r1 hi hn hF hM hL
 by_cases h1:n=ar
 ·subst h1
  have q1:((n:Int)==(n:Int))=true:=by simp
  have AE2:Hid (Zjj n rs t=if M=false then 31 else if 0≤F then 0 else if 65536≤L then 4 else 0):=by
   show _=_
   rw[AE.out,if_neg (by simp)]
  cases M with
  |false=>
   go_enter Tryz.func38,Tryz.ntmps38
   go_wp2_with (go_at_call 84;(with_reducible refine TX.out.mono ?_);rintro e w1 ⟨rfl,q2,rfl⟩)
   go_returns
   exact⟨by rw[AE2.out];rfl,q2,rfl⟩
  |true=>
   by_cases h2:0≤F
   ·go_enter Tryz.func38,Tryz.ntmps38
    go_wp2_with (first|(go_at_call 84;(with_reducible refine TX.out.mono ?_);rintro e w1 ⟨rfl,q2,rfl⟩)|(go_at_call 85;(with_reducible refine(FD.out _).mono ?_);rintro e w1 ⟨rfl,q3,rfl⟩))
    go_returns
    exact⟨by rw[AE2.out,if_pos h2];rfl,_,by first|rfl|exact World.drewN_drewN _ _ _⟩
   ·have h3:(65536:Int)≤(L:Int):=by
     have:=AB.out
     simp[h2] at this
     omega
    have h4:65536≤L:=by omega
    have h5:=C1.out
    go_enter Tryz.func38,Tryz.ntmps38
    go_wp2_with (first|(go_at_call 84;(with_reducible refine TX.out.mono ?_);rintro e w1 ⟨rfl,q2,rfl⟩)|(go_at_call 85;(with_reducible refine(FD.out _).mono ?_);rintro e w1 ⟨rfl,q3,rfl⟩;have h6:=h5 q2 q3;have h7:=C2.out (q2+q3)))
    go_returns
    exact⟨by rw[AE2.out,if_neg (show ¬0≤F by omega),if_pos h4];rfl,_,by first|rfl|exact World.drewN_drewN _ _ _⟩
 ·have q1:((n:Int)==(ar:Int))=false:=by simp;omega
  go_enter Tryz.func38,Tryz.ntmps38
  go_wp2
  go_returns
  exact⟨by rw[AE.out,if_pos h1];rfl,0,rfl⟩
