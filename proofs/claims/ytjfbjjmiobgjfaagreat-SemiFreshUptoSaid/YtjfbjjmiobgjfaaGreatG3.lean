/- The order of rows: a strict total order. -/
import Derived.Test.YtjfbjjmiobgjfaaGreatG1
import Derived.Shelf.Spec.SlicesInsert
import Derived.Lib.AppendZerosOnto
set_option maxRecDepth 100000
set_option maxHeartbeats 8000000
namespace Go.Proofs.YtjfbjjmiobgjfaaGreat
open ChangeShapes WideShapes ChangeAt RowKit
theorem Zf1 (a b:UInt8)(x y:List UInt8):Op.bytesLess (a::x) (b::y)=true↔a<b∨a=b∧Op.bytesLess x y=true:=by
 simp[Op.bytesLess]
theorem ZtQ (x:List UInt8):¬Op.bytesLess x x=true:=by
 induction x with
 |nil=>simp[Op.bytesLess]
 |cons a x ih=>
  rw[Zf1]
  rintro (h|⟨_,h⟩)
  ·exact absurd h (by simp)
  ·exact ih h
theorem Zrk:∀(x y:List UInt8),Op.bytesLess x y=true∨x=y∨Op.bytesLess y x=true
 |[],[]=>.inr (.inl rfl)
 |[],_::_=>.inl rfl
 |_::_,[]=>.inr (.inr rfl)
 |a::x,b::y=>by
  rcases Nat.lt_trichotomy a.toNat b.toNat with h|h|h
  ·exact .inl ((Zf1 ..).2 (.inl (UInt8.lt_iff_toNat_lt.2 h)))
  ·obtain rfl:a=b:=UInt8.toNat_inj.1 h
   rcases Zrk x y with h|h|h
   ·exact .inl ((Zf1 ..).2 (.inr ⟨rfl,h⟩))
   ·exact .inr (.inl (by rw[h]))
   ·exact .inr (.inr ((Zf1 ..).2 (.inr ⟨rfl,h⟩)))
  ·exact .inr (.inr ((Zf1 ..).2 (.inl (UInt8.lt_iff_toNat_lt.2 h))))
theorem ZlH:∀(x y z:List UInt8),Op.bytesLess x y=true→Op.bytesLess y z=true→Op.bytesLess x z=true
 |_,_,[],_,h=>by
  rename_i y _
  cases y <;> simp[Op.bytesLess] at h
 |[],_,_::_,_,_=>rfl
 |_::_,[],_::_,h,_=>by simp[Op.bytesLess] at h
 |a::x,b::y,c::z,h,k=>by
  rw[Zf1] at h k ⊢
  rcases h with h|⟨rfl,h⟩
  ·rcases k with k|⟨rfl,k⟩
   ·left
    rw[UInt8.lt_iff_toNat_lt] at h k ⊢
    omega
   ·exact .inl h
  ·rcases k with k|⟨rfl,k⟩
   ·exact .inl k
   ·exact .inr ⟨rfl,ZlH x y z h k⟩
theorem ZmH {a b:ByteArray}(h:a.toList=b.toList):a=b:=by
 have h1:=(Zby a b.toList).1 h
 have h2:=(Zby b b.toList).1 rfl
 rw[h1,←h2]
theorem Zbb (a:ByteArray):¬ltB a a=true:=ZtQ _
theorem Zbp {a b c:ByteArray}(h:ltB a b=true)(k:ltB b c=true):ltB a c=true:=ZlH _ _ _ h k
theorem Zfl (a b:ByteArray):ltB a b=true∨a=b∨ltB b a=true:=by
 rcases Zrk a.toList b.toList with h|h|h
 ·exact .inl h
 ·exact .inr (.inl (ZmH h))
 ·exact .inr (.inr h)
theorem Zde (a b:ByteArray):ZfI a b<0↔ltB a b=true:=by
 unfold ZfI
 by_cases h:ltB a b=true
 ·simp[h]
 ·by_cases h2:a=b
  ·simp[h2,Zbb]
  ·simp[h,h2]
theorem Zdt (a b:ByteArray):ZfI a b=0↔a=b:=by
 unfold ZfI
 split
 ·rename_i h
  constructor
  ·intro h0;cases h0
  ·rintro rfl;exact absurd h (Zbb a)
 ·split <;> simp[*]
theorem Zoa (a b:ByteArray):ZfI b a=-ZfI a b:=by
 rcases Zfl a b with h|rfl|h
 ·have h2:¬ltB b a=true:=fun k=>Zbb a (Zbp h k)
  have h3:¬b=a:=fun e=>by subst e;exact Zbb _ h
  simp[ZfI,h,h2,h3]
 ·simp[ZfI,Zbb]
 ·have h2:¬ltB a b=true:=fun k=>Zbb a (Zbp k h)
  have h3:¬a=b:=fun e=>by subst e;exact Zbb _ h
  simp[ZfI,h,h2,h3]
theorem ZaH:∀(x y:List ByteArray),Zaj x y=0↔x=y
 |[],[]=>by simp[Zaj]
 |[],_::_=>by simp[Zaj]
 |_::_,[]=>by simp[Zaj]
 |a::x,b::y=>by
  rw[Zaj]
  by_cases h:ZfI a b=0
  ·rw[if_neg (fun k=>k h),ZaH x y]
   have:=(Zdt a b).1 h
   simp[this]
  ·rw[if_pos h]
   constructor
   ·intro k;exact absurd k h
   ·intro k
    rw[List.cons.injEq] at k
    exact absurd ((Zdt a b).2 k.1) h
theorem Zcg:∀(x y:List ByteArray),Zaj y x=-Zaj x y
 |[],[]=>rfl
 |[],_::_=>rfl
 |_::_,[]=>rfl
 |a::x,b::y=>by
  rw[Zaj,Zaj,Zoa a b]
  by_cases h:ZfI a b=0
  ·rw[if_neg (by omega),if_neg (fun k=>k h),Zcg x y]
  ·rw[if_pos (by omega),if_pos h]
theorem ZbB:∀(x y z:List ByteArray),Zaj x y<0→Zaj y z<0→Zaj x z<0
 |[],[],_,h,_=>by simp[Zaj] at h
 |[],_::_,[],_,k=>by simp[Zaj] at k
 |[],_::_,_::_,_,_=>by simp[Zaj]
 |_::_,[],_,h,_=>by simp[Zaj] at h
 |_::_,_::_,[],_,k=>by simp[Zaj] at k
 |a::x,b::y,c::z,h,k=>by
  rw[Zaj] at h k ⊢
  by_cases h1:ZfI a b=0
  ·have e1:=(Zdt a b).1 h1
   subst e1
   rw[if_neg (fun n=>n h1)] at h
   by_cases k1:ZfI a c=0
   ·rw[if_neg (fun n=>n k1)] at k ⊢
    exact ZbB x y z h k
   ·rw[if_pos k1] at k ⊢
    exact k
  ·rw[if_pos h1] at h
   by_cases k1:ZfI b c=0
   ·have e1:=(Zdt b c).1 k1
    subst e1
    rw[if_pos h1]
    exact h
   ·rw[if_pos k1] at k
    have h2:=Zbp ((Zde a b).1 h) ((Zde b c).1 k)
    have h3:=(Zde a c).2 h2
    rw[if_pos (by omega)]
    exact h3
def Zbg (rs:List (List ByteArray)):Prop:=rs.Pairwise fun a b=>Zaj a b<0
theorem Zbg.cut {rs:List (List ByteArray)}(h:Zbg rs)(t:List ByteArray):Cut rs t:=by
 intro i j x y hij hx hy hlt
 by_cases he:i=j
 ·subst he
  rw[hx] at hy
  cases hy
  exact hlt
 ·obtain⟨hi,rfl⟩:=zgs hx
  obtain⟨hj,rfl⟩:=zgs hy
  exact ZbB _ _ _ (List.pairwise_iff_getElem.1 h i j hi hj (by omega)) hlt
theorem ZiE {α:Type}{p:α→Bool}{l:List α}{x:α}(h:x∈l.takeWhile p):p x=true:=by
 induction l with
 |nil=>simp at h
 |cons a l ih=>
  rw[List.takeWhile_cons] at h
  split at h
  ·rename_i ha
   rcases List.mem_cons.1 h with rfl|h
   ·exact ha
   ·exact ih h
  ·cases h
theorem ZdP {rs:List (List ByteArray)}(h:Zbg rs)(t:List ByteArray):ZdK rs t≤rs.length∧(∀k x,k<ZdK rs t→rs[k]? =some x→Zaj x t<0)∧∀k x,ZdK rs t≤k→rs[k]? =some x→¬Zaj x t<0:=by
 have hl:ZdK rs t≤rs.length:=(List.takeWhile_prefix _).length_le
 refine⟨hl,fun k x hk hx=>?_,fun k x hk hx hn=>?_⟩
 ·have h1:(rs.takeWhile fun r=>decide (Zaj r t<0))[k]? =some x:=by
   obtain⟨l,e⟩:=List.takeWhile_prefix (fun r=>decide (Zaj r t<0)) (l:=rs)
   rw[←e,List.getElem?_append_left hk] at hx
   exact hx
  have h2:=ZiE (zmg h1)
  simpa using h2
 ·have hk':=(zgs hx).1
  obtain⟨y,hy⟩:∃y,rs[ZdK rs t]? =some y:=⟨_,zge (by omega)⟩
  have h3:=h.cut t _ _ _ _ hk hy hx hn
  have h4:=List.head?_dropWhile_not (fun r=>decide (Zaj r t<0)) rs
  have e:rs.drop (ZdK rs t)=rs.dropWhile fun r=>decide (Zaj r t<0):=by
   have h5:=List.takeWhile_append_dropWhile (p:=fun r=>decide (Zaj r t<0)) (l:=rs)
   conv=>lhs;arg 2;rw[←h5]
   exact List.drop_left
  rw[←e,List.head?_drop,hy] at h4
  simp at h4
  omega
theorem Zdu {rs:List (List ByteArray)}(h:Zbg rs)(t:List ByteArray):ZaX rs t=true↔t∈rs:=by
 obtain⟨h1,h2,h3⟩:=ZdP h t
 unfold ZaX
 constructor
 ·intro hf
  cases hx:rs[ZdK rs t]? with
  |none=>rw[hx] at hf;cases hf
  |some r=>
   rw[hx] at hf
   have:=(ZaH r t).1 (by simpa using hf)
   rw[←this]
   exact zmg hx
 ·intro hm
  obtain⟨k,hk⟩:=List.mem_iff_getElem?.1 hm
  have hkl:¬k<ZdK rs t:=fun hlt=>by
   have h5:=h2 k t hlt hk
   rw[(ZaH t t).2 rfl] at h5
   omega
  obtain⟨y,hy⟩:∃y,rs[ZdK rs t]? =some y:=⟨_,zge (by have:=(zgs hk).1;omega)⟩
  rw[hy]
  have h6:=h3 _ y (Nat.le_refl _) hy
  by_cases he:ZdK rs t=k
  ·rw[he,hk] at hy
   cases hy
   simp[(ZaH t t).2 rfl]
  ·exfalso
   obtain⟨hi,rfl⟩:=zgs hy
   obtain⟨hj,e⟩:=zgs hk
   have h7:=List.pairwise_iff_getElem.1 h _ k hi hj (by omega)
   rw[e] at h7
   exact h6 h7
def ZaO (rs:List (List ByteArray))(t:List ByteArray):List (List ByteArray):=if ZaX rs t=true then rs else rs.take (ZdK rs t)++t::rs.drop (ZdK rs t)
theorem ZiF {rs:List (List ByteArray)}(h:Zbg rs)(t:List ByteArray):Zbg (ZaO rs t):=by
 unfold ZaO
 split
 ·exact h
 ·rename_i hf
  obtain⟨h1,h2,h3⟩:=ZdP h t
  have hd:∀y∈rs.drop (ZdK rs t),Zaj t y<0:=fun y hy=>by
   obtain⟨k,hk⟩:=List.mem_iff_getElem?.1 hy
   rw[List.getElem?_drop] at hk
   have h4:=h3 _ y (Nat.le_add_right _ _) hk
   have h5:Zaj y t≠0:=fun h0=>hf ((Zdu h t).2 (by rw[←(ZaH y t).1 h0];exact zmg hk))
   have h6:=Zcg y t
   omega
  have ht:∀x∈rs.take (ZdK rs t),Zaj x t<0:=fun x hx=>by
   obtain⟨k,hk⟩:=List.mem_iff_getElem?.1 hx
   have hkl:=(zgs hk).1
   rw[List.length_take] at hkl
   rw[List.getElem?_take] at hk
   split at hk
   ·exact h2 k x (by omega) hk
   ·cases hk
  refine List.pairwise_append.2 ⟨h.sublist (List.take_sublist _ _),List.pairwise_cons.2 ⟨hd,h.sublist (List.drop_sublist _ _)⟩,fun x hx y hy=>?_⟩
  rcases List.mem_cons.1 hy with rfl|hy
  ·exact ht x hx
  ·exact ZbB _ _ _ (ht x hx) (hd y hy)
theorem Zes {rs:List (List ByteArray)}(h:Zbg rs)(t x:List ByteArray):x∈ZaO rs t↔x=t∨x∈rs:=by
 unfold ZaO
 split
 ·rename_i hf
  have:=(Zdu h t).1 hf
  constructor
  ·exact .inr
  ·rintro (rfl|hx)
   ·exact this
   ·exact hx
 ·have e:rs=rs.take (ZdK rs t)++rs.drop (ZdK rs t):=(List.take_append_drop _ _).symm
  have:x∈rs↔x∈rs.take (ZdK rs t)∨x∈rs.drop (ZdK rs t):=by
   conv=>lhs;rw[e]
   exact List.mem_append
  rw[List.mem_append,List.mem_cons,this]
  constructor
  ·rintro (h1|h1|h1)
   ·exact .inr (.inl h1)
   ·exact .inl h1
   ·exact .inr (.inr h1)
  ·rintro (h1|h1|h1)
   ·exact .inr (.inl h1)
   ·exact .inl h1
   ·exact .inr (.inr h1)
theorem Zcu:(Tryz.prog.info? 54).map (fun i=>(i.zero,i.size,i.bytes))=some (some (.slice none 0 0),1,24):=by kernel_rfl
def ZeS (base:Nat)(vs:List Value)(u:Value)(n i:Nat)(row:Option Nat)(w:World)(e:Ending)(w':World):Prop:=∃g c',e=.returned (.slice (some ⟨g,0,none⟩) (n+1) c')∧w'.ownsRow base 54 1 (.slice (some ⟨g,0,none⟩) (n+1) c') (n+1) (vs.take i++u::vs.drop i)∧w.grownBy w' row∧(row=some g∨w.heap.size≤g)
theorem Zjz (vs:List Value)(u:Value)(a:Option Addr)(n c gv:Nat)(base:Nat)(w:World)(hown:w.ownsRow base 54 1 (.slice a n c) n vs)(hv:w.cell? ⟨gv,0,none⟩=some u)(hu:u.oneCell'=true)(hn:n≤1000000)(hb:base≤w.heap.size):
  Calls Tryz.prog 114 #[.slice a n c,.int .i64 (n:Int),.slice (some ⟨gv,0,none⟩) 1 1] w (ZeS base vs u n n (Value.slice a n c).ownBlock w):=by
 obtain⟨i0,hi,hz0,hz1,hz2⟩:=info_parts Zcu
 have HO:=zh hown
 have HV:=zh hv
 have hlen:vs.length=n:=by have:=hown.1;omega
 have HL:=zh hlen
 have hcap:=(ZaF hown).1
 have hci:(n:Int)≤(c:Int):=by omega
 have B1:Hid (n+1≤maxLen):=by show _≤_;unfold maxLen;omega
 have B2:Hid ((n+1)*24≤140737488355328):=by show _≤_;omega
 have HNW:Hid (∀j x,[u][j]? =some x→w.cell? ((⟨gv,0,none⟩:Addr).add j)=some x):=fun j x hx=>by
  have hj:j=0:=by
   have:=(zgs hx).1
   simp at this
   exact this
  subst hj
  cases hx
  rw[Addr.add_lit]
  exact HV.out
 clear hown hv hlen
 by_cases hcn:c=n
 ·subst hcn
  go_enter Tryz.func114,Tryz.ntmps114
  go_wp2_with (at_builtin;go_loud (refine wpList_append_lies _ rfl _ _ 50 rfl base 54 i0 (.slice none 0 0) 1 24 Tryz.underlying50 hi hz0 hz1 hz2 rfl (by decide) (.slice a c c) c vs rfl HO.out ⟨gv,0,none⟩ 1 1 [u] rfl rfl HNW.out (fun x hx=>by cases List.mem_singleton.1 hx;exact hu) (Nat.zero_lt_one) B1.out B2.out hb _ rfl ?_);intro g7 p7 w7 own7 q7 hat7 hlt7)
  go_returns
  exact⟨g7,p7,rfl,by rw[List.take_of_length_le (by have:=HL.out;omega),List.drop_of_length_le (by have:=HL.out;omega)];exact own7,q7,hat7.imp id (fun e=>by rw[e];exact Nat.le_refl _)⟩
 ·have hcn2:¬((c:Int)=(n:Int)):=by omega
  go_enter Tryz.func114,Tryz.ntmps114
  go_wp2_with (at_builtin;go_loud (refine wpList_append_lies _ rfl _ _ 50 rfl base 54 i0 (.slice none 0 0) 1 24 Tryz.underlying50 hi hz0 hz1 hz2 rfl (by decide) (.slice a n c) n vs rfl HO.out ⟨gv,0,none⟩ 1 1 [u] rfl rfl HNW.out (fun x hx=>by cases List.mem_singleton.1 hx;exact hu) (Nat.zero_lt_one) B1.out B2.out hb _ rfl ?_);intro g7 p7 w7 own7 q7 hat7 hlt7)
  go_returns
  exact⟨g7,p7,rfl,by rw[List.take_of_length_le (by have:=HL.out;omega),List.drop_of_length_le (by have:=HL.out;omega)];exact own7,q7,hat7.imp id (fun e=>by rw[e];exact Nat.le_refl _)⟩
def Zpy:List Value→Nat→List Value→List Value
 |xs,_,[]=>xs
 |xs,j,v::r=>Zpy (xs.set j v) (j+1) r
theorem Zg4 (news:List Value):∀(xs:List Value) (j:Nat),j+news.length≤xs.length→Zpy xs j news=xs.take j++news++xs.drop (j+news.length):=by
 induction news with
 |nil=>intro xs j _;simp[Zpy]
 |cons v r ih=>
  intro xs j h
  rw[List.length_cons] at h
  rw[Zpy,ih (xs.set j v) (j+1) (by rw[List.length_set];omega),List.length_cons]
  have e1:(xs.set j v).take (j+1)=xs.take j++[v]:=by
   rw[List.take_add_one,List.getElem?_set,if_pos rfl,if_pos (by omega),List.take_set,List.set_eq_of_length_le (List.length_take_le _ _)]
   rfl
  have e2:(xs.set j v).drop (j+1+r.length)=xs.drop (j+(r.length+1)):=by
   rw[List.drop_set_of_lt (by omega),show j+1+r.length=j+(r.length+1) by omega]
  rw[e1,e2]
  simp
theorem Zck {base n size g cap:Nat}{e:TypeId}(news:List Value):∀(w:World) (j:Nat) (xs:List Value),w.ownsRow base e size (.slice (some ⟨g,0,none⟩) n cap) n xs→(w.setCells g j news).ownsRow base e size (.slice (some ⟨g,0,none⟩) n cap) n (Zpy xs j news)∧w.grownBy (w.setCells g j news) (some g):=by
 induction news with
 |nil=>intro w j xs h;exact⟨h,rfl,rfl,rfl,Nat.le_refl _,fun _ _ _=>rfl⟩
 |cons v r ih=>
  intro w j xs h
  obtain⟨h1,h2⟩:=h.stored j v
  obtain⟨h3,h4⟩:=ih _ (j+1) _ h1
  exact⟨h3,h4.os.trans h2.os,h4.tape.trans h2.tape,h4.output.trans h2.output,Nat.le_trans h2.size h4.size,fun k hk hne=>(h4.block k (Nat.lt_of_lt_of_le hk h2.size) hne).trans (h2.block k hk hne)⟩
theorem Zob {w:World}{base n c g:Nat}{e:TypeId}{xs:List Value}(h:w.ownsRow base e 1 (.slice (some ⟨g,0,none⟩) n c) n xs)(hr:n+1≤c):∃y,w.ownsRow base e 1 (.slice (some ⟨g,0,none⟩) (n+1) c) (n+1) (xs++[y]):=by
 have hl:=h.1
 rcases h.2 with⟨h1,_⟩|⟨_,_,cur,hv,hb,hg,hn,hm,hs,ht⟩
 ·cases h1
 ·cases hv
  obtain⟨y,hy⟩:∃y,cur.toList[n]? =some y:=⟨_,zge (by simp;omega)⟩
  refine⟨y,by simp;omega,.inr ⟨_,_,cur,rfl,hb,hg,hr,hm,hs,?_⟩⟩
  rw[Nat.mul_one] at ht ⊢
  rw[ZaA hy,ht]
theorem ZhD (vs:List Value)(u:Value)(g n c i gv:Nat)(base:Nat)(w:World)(hown:w.ownsRow base 54 1 (.slice (some ⟨g,0,none⟩) n c) n vs)(h1v:∀v∈vs,v.oneCell'=true)(hin:i<n)(hroom:n+1≤c)(hgv:w.heap[gv]? =some (.cells #[u] 54 (0,0)))(hne:gv≠g)(hu:u.oneCell'=true)(hn:n≤1000000):
  Calls Tryz.prog 114 #[.slice (some ⟨g,0,none⟩) n c,.int .i64 (i:Int),.slice (some ⟨gv,0,none⟩) 1 1] w (ZeS base vs u n i (some g) w):=by
 obtain⟨y,hwide⟩:=Zob hown hroom
 have hlen:vs.length=n:=by have:=hown.1;omega
 have hcells:∀j v,(vs++[y])[j]? =some v→w.cell? ⟨g,j,none⟩=some v:=fun j v hj=>by
  have:=hwide.cells (g:=g) rfl j v hj
  rw[Addr.add_lit,Nat.zero_add] at this
  exact this
 have hsome:∀j,j<n+1→(w.cell? ⟨g,j,none⟩).isSome=true:=fun j hj=>by
  obtain⟨v,hv⟩:∃v,(vs++[y])[j]? =some v:=⟨_,zge (by simp;omega)⟩
  rw[hcells j v hv]
  rfl
 have hfree:∀j,w.frozen? ⟨g,j,none⟩=false:=fun j=>by
  rcases hwide.2 with⟨h1,_⟩|⟨g',c',cur,hv,_,hg,_⟩
  ·cases h1
  ·cases hv
   simp[World.frozen?,hg]
 have hshape:∃k,w.shape? g=some (54,k)∧k≠0:=by
  rcases hwide.2 with⟨h1,_⟩|⟨g',c',cur,hv,_,hg,hnc,_,hs,_⟩
  ·cases h1
  ·cases hv
   exact⟨cur.size,by simp[World.shape?,hg],by omega⟩
 obtain⟨kB,hsb,hkB⟩:=hshape
 have hsa:w.shape? gv=some (54,1):=by simp[World.shape?,hgv]
 have hfa:w.frozen? ⟨gv,0,none⟩=false:=by simp[World.frozen?,hgv]
 have hfe:w.frozen? ⟨gv,1,none⟩=false:=by simp[World.frozen?,hgv]
 have hvv:w.cell? ⟨gv,0,none⟩=some u:=by simp[World.cell?,hgv]
 have hc63:c≤9223372036854775807:=by
  have:=hown.2
  rcases this with⟨h1,_⟩|⟨g',c',cur,hv,_,_,_,hm,_⟩
  ·cases h1
  ·cases hv
   exact hm
 have hsz:(Tryz.prog.info? 54).map (·.size)=some 1:=by
  obtain⟨i0,hi0,h0,h1,h2⟩:=info_parts Zcu
  rw[hi0]
  simp[h1]
 have hov:∀lb cb,(callFunc 143 #[.slice (some ⟨gv,0,none⟩) 1 1,.slice (some ⟨g,i+1,none⟩) lb cb]).run Tryz.prog w=.ok (.value (.bool false)) w:=fun lb cb=>by
  rw[run_callFunc_extern Tryz.func143 (by kernel_rfl) (by kernel_rfl) (by kernel_rfl) (e:=Extern.SlicesOverlaps.overlaps #[50,50] #[4]) (by kernel_rfl),
   Lib.run_overlaps_apart w 50 4 54 Tryz.underlying50 1 (fun w=>by kernel_rfl) ⟨gv,0,none⟩ ⟨g,i+1,none⟩ 1 1 lb cb hne _ _ 1 kB hsa hsb hkB hfa hfe]
  rfl
 have hdl:(vs.drop i).length=n-i:=by rw[List.length_drop,hlen]
 have hcp1:∀ty dc sc,(Builtin.copy_ #[50,50] ty #[.slice (some ⟨g,i+1,none⟩) (n-i) dc,.slice (some ⟨g,i,none⟩) (n+1-i) sc]).run Tryz.prog w.drew=.ok (goInt (vs.drop i).length) (w.drew.setCells g (i+1) (vs.drop i)):=fun ty dc sc=>
  run_copy_cells w.drew _ _ ty 54 g (i+1) (n-i) dc ⟨g,i,none⟩ (n+1-i) sc (vs.drop i) Tryz.underlying50 hsz (by rw[hdl];simp only[Nat.min_def];split <;> omega)
   (fun j v hj=>by
    rw[Addr.add_lit]
    rw[List.getElem?_drop] at hj
    exact hcells (i+j) v (by rw[List.getElem?_append_left (zgs hj).1];exact hj))
   (fun j hj=>hsome _ (by omega)) (fun j _=>hfree _) (fun v hv=>h1v v (List.mem_of_mem_drop hv))
 obtain⟨W1,hW1⟩:∃W1,W1=w.drew.setCells g (i+1) (vs.drop i):=⟨_,rfl⟩
 have hsp1:∀k,k<n+1→(W1.cell? ⟨g,k,none⟩).isSome=true:=fun k hk=>by
  rw[hW1]
  exact isSome_setCells g (vs.drop i) (i+1) w.drew (fun j hj=>hsome _ (by rw[hdl] at hj;omega)) k (hsome k hk)
 have hcp2:∀(W:World),(∀x,W.cell? x=W1.cell? x)→(∀x,W.frozen? x=W1.frozen? x)→∀ty dc,(Builtin.copy_ #[50,50] ty #[.slice (some ⟨g,i,none⟩) (n+1-i) dc,.slice (some ⟨gv,0,none⟩) 1 1]).run Tryz.prog W=.ok (goInt [u].length) (W.setCells g i [u]):=fun W hWc hWf ty dc=>
  run_copy_cells W _ _ ty 54 g i (n+1-i) dc ⟨gv,0,none⟩ 1 1 [u] Tryz.underlying50 hsz (by simp only[Nat.min_def,List.length_singleton];split <;> omega)
   (fun j v hj=>by
    have hj0:j=0:=by
     have:=(zgs hj).1
     simp at this
     exact this
    subst hj0
    cases hj
    rw[Addr.add_lit,hWc,hW1,World.cell?_setCells_out g _ _ _ _ (fun h _=>absurd h hne)]
    exact hvv)
   (fun j hj=>by rw[hWc];simp at hj;exact hsp1 _ (by omega)) (fun j _=>by rw[hWf,hW1,World.frozen?_setCells];exact hfree _) (fun x hx=>by cases List.mem_singleton.1 hx;exact hu)
 rw[←hW1] at hcp1
 have HEND:Hid (∀W,W=W1→(W.setCells g i [u]).ownsRow base 54 1 (.slice (some ⟨g,0,none⟩) (n+1) c) (n+1) (vs.take i++u::vs.drop i)∧w.grownBy (W.setCells g i [u]) (some g)):=by
  intro W hWe
  rw[hWe]
  obtain⟨s1,s2⟩:=Zck (vs.drop i) w.drew (i+1) _ hwide.drew
  rw[←hW1] at s1 s2
  obtain⟨s3,s4⟩:=Zck [u] W1 i _ s1
  refine⟨?_,⟨s4.os.trans s2.os,s4.tape.trans s2.tape,s4.output.trans s2.output,Nat.le_trans s2.size s4.size,fun k hk hne=>(s4.block k (Nat.lt_of_lt_of_le hk s2.size) hne).trans (s2.block k hk hne)⟩⟩
  have e0:(vs++[y]).take (i+1)=vs.take (i+1):=List.take_append_of_le_length (by omega)
  have hl1:(vs.take (i+1)).length=i+1:=by rw[List.length_take];omega
  have hl2:(vs++[y]).length=n+1:=by simp[hlen]
  have e1:Zpy (vs++[y]) (i+1) (vs.drop i)=vs.take (i+1)++vs.drop i:=by
   rw[Zg4 _ _ _ (by rw[hl2,hdl];omega),e0,List.drop_of_length_le (l:=vs++[y]) (by rw[hl2,hdl];omega),List.append_nil]
  have e2:Zpy (vs.take (i+1)++vs.drop i) i [u]=vs.take i++u::vs.drop i:=by
   rw[Zg4 _ _ _ (by rw[List.length_append,hl1,List.length_singleton];omega)]
   have e3:(vs.take (i+1)++vs.drop i).take i=vs.take i:=by
    rw[List.take_append_of_le_length (by rw[hl1];omega),List.take_take,Nat.min_eq_left (Nat.le_succ i)]
   have e4:(vs.take (i+1)++vs.drop i).drop (i+[u].length)=vs.drop i:=by
    rw[List.length_singleton]
    exact List.drop_left' hl1
   rw[e3,e4]
   simp
  rw[e1,e2] at s3
  exact s3
 have hw1:IntKind.i64.wrap ((i:Int)+1)=(i:Int)+1:=by rw[IntKind.wrap_i64];omega
 have hw2:IntKind.i64.wrap ((n:Int)+1)=(n:Int)+1:=by rw[IntKind.wrap_i64];omega
 have hb1:(0:Int)≤(i:Int)+1:=by omega
 have htn:((i:Int)+1).toNat=i+1:=by omega
 have htn2:((n:Int)+1).toNat=n+1:=by omega
 have hb2:¬(c=i+1):=by omega
 have hb3:(i:Int)≤(n:Int)+1:=by omega
 have hb4:¬(c=i):=by omega
 have hb5:¬((i:Int)=(n:Int)):=by omega
 have hb6:(i:Int)≤(n:Int):=by omega
 have hb7:(i:Int)+1≤(n:Int)+1:=by omega
 have hb8:(n:Int)+1≤(c:Int):=by omega
 have hb9:¬((c:Int)<(n:Int)+1):=by omega
 have HW1:=zh hW1
 clear hown hwide hcells hsome hfree hsa hsb hfa hfe hvv hsz hdl hsp1 hlen hgv hW1
 go_enter Tryz.func114,Tryz.ntmps114
 go_wp2_with (simp only[hov])
 have mixed:Tryz.prog.follows .mixedOrders=true:=by kernel_rfl
 go_region_law_o (refine step_copy_runI rfl _ _ 50 50 rfl _ _ (by simp[Act.eval,Act.put]) (by simp[Act.eval,Act.put]) (hcp1 _ _ _) ?_)
 go_wp2_with (at_builtin;refine wpList_copy_runI _ rfl _ _ 50 50 rfl _ _ rfl rfl (hcp2 _ (fun _=>rfl) (fun _=>rfl) _ _) ?_)
 go_returns
 exact⟨g,c,rfl,(HEND.out _ rfl).1,(HEND.out _ rfl).2,.inl rfl⟩
theorem ZiG (vs:List Value)(u:Value)(g n c i gv:Nat)(base:Nat)(w:World)(hown:w.ownsRow base 54 1 (.slice (some ⟨g,0,none⟩) n c) n vs)(h1v:∀v∈vs,v.oneCell'=true)(hin:i<n)(hroom:c<n+1)(hvv:w.cell? ⟨gv,0,none⟩=some u)(hu:u.oneCell'=true)(hn:n≤1000000)(hb:base≤w.heap.size):
  Calls Tryz.prog 114 #[.slice (some ⟨g,0,none⟩) n c,.int .i64 (i:Int),.slice (some ⟨gv,0,none⟩) 1 1] w (ZeS base vs u n i none w):=by
 have hlen:vs.length=n:=by have:=hown.1;omega
 have hnc:n≤c:=(ZaF hown).1
 obtain rfl:c=n:=by omega
 have hcells:∀j v,vs[j]? =some v→w.cell? ⟨g,j,none⟩=some v:=fun j v hj=>by
  have:=hown.cells (g:=g) rfl j v hj
  rw[Addr.add_lit,Nat.zero_add] at this
  exact this
 obtain⟨i0,hi0,hz0,hzs,hzb⟩:=info_parts Zcu
 have hsz:(Tryz.prog.info? 54).map (·.size)=some 1:=by rw[hi0];simp[hzs]
 have hgw:g<w.heap.size:=(hown.lt g rfl).2
 have hvw:gv<w.heap.size:=World.block_lt_of_cell? w ⟨gv,0,none⟩ hvv
 have hkk:(c:Int)+1-(i:Int)=((c+1-i:Nat):Int):=by omega
 have hik:i+(c+1-i)=c+1:=by omega
 have hold:(Builtin.firstCells i0.size i (.slice (some ⟨g,0,none⟩) i c)).run Tryz.prog w.drew=.ok (vs.take i).toArray w.drew:=by
  rw[hzs]
  exact run_firstCells_some w.drew 1 i ⟨g,0,none⟩ i c (vs.take i) (by rw[List.length_take];omega) (fun j v hj=>by
   rw[Addr.add_lit,Nat.zero_add]
   rw[List.getElem?_take] at hj
   split at hj
   ·exact hcells j v hj
   ·cases hj)
 obtain⟨G,hG⟩:∃G,G=grownCap w (c+1) c 54:=⟨_,rfl⟩
 obtain⟨ROW,hROW⟩:∃ROW:Array Value,ROW=(vs.take i).toArray++Builtin.zeroCells (Value.slice none 0 0).cells (c+1-i)++Builtin.zeroCells (Value.slice none 0 0).cells (G-(c+1)):=⟨_,rfl⟩
 have hrz:∀ty,(Builtin.append_ #[50,3] ty #[.slice (some ⟨g,0,none⟩) i c,.int .i64 ((c:Int)+1-(i:Int))]).run Tryz.prog w=.ok (.slice (some ⟨w.heap.size,0,none⟩) (c+1) G) (w.drew.alloc (.cells ROW 54)):=fun ty=>by
  have h:=Lib.run_append_grow_zeros w 50 3 ty 54 i0 _ .i64 .i64 Tryz.underlying50 Tryz.underlying3 hi0 hz0 (some ⟨g,0,none⟩) i c (vs.take i) hold (c+1-i) (by omega) (by omega) (by omega) (by omega) (by rw[hzb];omega) (by rw[hzb,hik];exact growslice_fits hroom (by omega))
  rw[hik] at h
  rw[hkk,hROW,hG]
  exact h
 have hGn:c+1≤G:=by rw[hG];exact grownCap_ge w _ _ _
 have hG63:G≤maxLen:=by
  rw[hG]
  exact grownCap_le_maxLen w (c+1) c 54 (by unfold maxLen;omega)
 have hRs:ROW.size=G*1:=by
  rw[hROW]
  simp[Builtin.zeroCells,Value.cells]
  omega
 have hRt:(ROW.toList.take (c+1)).take i=vs.take i:=by
  rw[List.take_take,Nat.min_eq_left (by omega),hROW,Array.toList_append,Array.toList_append,List.append_assoc]
  rw[show (vs.take i).toArray.toList=vs.take i from rfl]
  rw[List.take_append_of_le_length (by rw[List.length_take];omega),List.take_take,Nat.min_self]
 have hXl:(ROW.toList.take (c+1)).length=c+1:=by rw[List.length_take,Array.length_toList,hRs];omega
 obtain⟨W1,hW1⟩:∃W1,W1=w.drew.alloc (.cells ROW 54):=⟨_,rfl⟩
 have rowW1:W1.ownsRow base 54 1 (.slice (some ⟨w.heap.size,0,none⟩) (c+1) G) (c+1) (ROW.toList.take (c+1)):=by
  refine⟨by rw[hXl];omega,.inr ⟨w.heap.size,G,ROW,rfl,hb,?_,hGn,hG63,hRs,by rw[Nat.mul_one]⟩⟩
  rw[hW1]
  exact heap_alloc_new w.drew _
 have gr1:w.grownBy W1 none:=by
  rw[hW1]
  exact⟨rfl,rfl,rfl,by simp,fun k hk _=>heap_alloc_old w.drew _ hk⟩
 have hN:∀j,j<c+1→(W1.cell? ⟨w.heap.size,j,none⟩).isSome=true:=fun j hj=>by
  obtain⟨v,hv⟩:∃v,(ROW.toList.take (c+1))[j]? =some v:=⟨_,zge (by omega)⟩
  have:=rowW1.cells (g:=w.heap.size) rfl j v hv
  rw[Addr.add_lit,Nat.zero_add] at this
  rw[this]
  rfl
 have hNf:∀j,W1.frozen? ⟨w.heap.size,j,none⟩=false:=fun j=>by rw[hW1];exact World.frozen?_alloc_at (w:=w.drew) ROW _ w.heap.size j rfl
 have hOb:∀b j v,w.cell? ⟨b,j,none⟩=some v→W1.cell? ⟨b,j,none⟩=some v:=fun b j v h=>by
  rw[hW1]
  exact Zac (Zab (Zaf (Below.refl _ w)) _) h
 have hcpA:∀(W:World),(∀x,W.cell? x=W1.cell? x)→(∀x,W.frozen? x=W1.frozen? x)→∀ty dc,(Builtin.copy_ #[50,50] ty #[.slice (some ⟨w.heap.size,i,none⟩) (c+1-i) dc,.slice (some ⟨gv,0,none⟩) 1 1]).run Tryz.prog W=.ok (goInt [u].length) (W.setCells w.heap.size i [u]):=fun W hWc hWf ty dc=>
  run_copy_cells W _ _ ty 54 w.heap.size i (c+1-i) dc ⟨gv,0,none⟩ 1 1 [u] Tryz.underlying50 hsz (by simp only[Nat.min_def,List.length_singleton];split <;> omega)
   (fun j v hj=>by
    have hj0:j=0:=by
     have:=(zgs hj).1
     simp at this
     exact this
    subst hj0
    cases hj
    rw[Addr.add_lit,hWc]
    exact hOb gv 0 u hvv)
   (fun j hj=>by rw[hWc];simp at hj;exact hN _ (by omega)) (fun j _=>by rw[hWf];exact hNf _) (fun x hx=>by cases List.mem_singleton.1 hx;exact hu)
 have hdl:(vs.drop i).length=c-i:=by rw[List.length_drop,hlen]
 have hbN:g≠w.heap.size:=by omega
 have hcpB:∀(W:World),(∀x,W.cell? x=(W1.setCells w.heap.size i [u]).cell? x)→(∀x,W.frozen? x=(W1.setCells w.heap.size i [u]).frozen? x)→∀ty dc sc,(Builtin.copy_ #[50,50] ty #[.slice (some ⟨w.heap.size,i+1,none⟩) (c-i) dc,.slice (some ⟨g,i,none⟩) (c-i) sc]).run Tryz.prog W=.ok (goInt (vs.drop i).length) (W.setCells w.heap.size (i+1) (vs.drop i)):=fun W hWc hWf ty dc sc=>
  run_copy_cells W _ _ ty 54 w.heap.size (i+1) (c-i) dc ⟨g,i,none⟩ (c-i) sc (vs.drop i) Tryz.underlying50 hsz (by rw[hdl];simp only[Nat.min_def];split <;> omega)
   (fun j v hj=>by
    rw[Addr.add_lit,hWc,World.cell?_setCells_out _ _ _ _ _ (fun h _=>absurd h hbN)]
    rw[List.getElem?_drop] at hj
    exact hOb g (i+j) v (hcells (i+j) v hj))
   (fun j hj=>by rw[hWc];exact isSome_setCells w.heap.size [u] i W1 (fun t ht=>hN _ (by simp at ht;omega)) _ (hN _ (by omega)))
   (fun j _=>by rw[hWf,World.frozen?_setCells];exact hNf _) (fun v hv=>h1v v (List.mem_of_mem_drop hv))
 have HEND:Hid (∀W,W=(W1.setCells w.heap.size i [u]).drew→(W.setCells w.heap.size (i+1) (vs.drop i)).ownsRow base 54 1 (.slice (some ⟨w.heap.size,0,none⟩) (c+1) G) (c+1) (vs.take i++u::vs.drop i)∧w.grownBy (W.setCells w.heap.size (i+1) (vs.drop i)) none):=by
  intro W hWe
  rw[hWe]
  obtain⟨s1,s2_⟩:=Zck [u] W1 i _ rowW1
  have s2:W1.grownBy (W1.setCells w.heap.size i [u]).drew (some w.heap.size):=⟨s2_.os,s2_.tape,s2_.output,s2_.size,s2_.block⟩
  obtain⟨s3,s4⟩:=Zck (vs.drop i) (W1.setCells w.heap.size i [u]).drew (i+1) _ s1.drew
  have hl0:((ROW.toList.take (c+1)).take i++[u]).length=i+1:=by rw[hRt,List.length_append,List.length_take,List.length_singleton];omega
  have e1:Zpy (ROW.toList.take (c+1)) i [u]=vs.take i++[u]++(ROW.toList.take (c+1)).drop (i+1):=by
   rw[Zg4 _ _ _ (by rw[hXl,List.length_singleton];omega),hRt,List.length_singleton]
  have hl1:(vs.take i++[u]).length=i+1:=by rw[List.length_append,List.length_take,List.length_singleton];omega
  have e2:Zpy (vs.take i++[u]++(ROW.toList.take (c+1)).drop (i+1)) (i+1) (vs.drop i)=vs.take i++u::vs.drop i:=by
   have hl2:(vs.take i++[u]++(ROW.toList.take (c+1)).drop (i+1)).length=c+1:=by rw[List.length_append,hl1,List.length_drop,hXl];omega
   rw[Zg4 _ _ _ (by rw[hl2,hdl];omega),List.drop_of_length_le (l:=vs.take i++[u]++(ROW.toList.take (c+1)).drop (i+1)) (by rw[hl2,hdl];omega),List.append_nil,List.take_left' hl1]
   simp
  rw[e1,e2] at s3
  refine⟨s3,⟨s4.os.trans (s2.os.trans gr1.os),s4.tape.trans (s2.tape.trans gr1.tape),s4.output.trans (s2.output.trans gr1.output),Nat.le_trans gr1.size (Nat.le_trans s2.size s4.size),fun k hk _=>?_⟩⟩
  have hk1:k<W1.heap.size:=Nat.lt_of_lt_of_le hk gr1.size
  have hkN:some k≠some w.heap.size:=by
   intro e
   cases e
   omega
  exact(s4.block k (Nat.lt_of_lt_of_le hk1 s2.size) hkN).trans ((s2.block k hk1 hkN).trans (gr1.block k hk (by simp)))
 have hw1:IntKind.i64.wrap ((i:Int)+1)=(i:Int)+1:=by rw[IntKind.wrap_i64];omega
 have hw2:IntKind.i64.wrap ((c:Int)+1)=(c:Int)+1:=by rw[IntKind.wrap_i64];omega
 have hw3:IntKind.i64.wrap ((c:Int)+1-(i:Int))=(c:Int)+1-(i:Int):=by rw[IntKind.wrap_i64];omega
 have hb1:(0:Int)≤(i:Int)+1:=by omega
 have htn:((i:Int)+1).toNat=i+1:=by omega
 have hGi:¬(G=i):=by omega
 have hGim:¬(G=i+1):=by omega
 have hci:¬(c=i):=by omega
 have hb5:¬((i:Int)=(c:Int)):=by omega
 have hb6:(i:Int)≤(c:Int):=by omega
 have hb7:(i:Int)≤(c:Int)+1:=by omega
 have hb8:(i:Int)+1≤(c:Int)+1:=by omega
 have hb9:(c:Int)<(c:Int)+1:=by omega
 have hE1:∀x,((w.alloc (.cells ROW 54)).drew).cell? x=W1.cell? x:=fun x=>by rw[hW1];rfl
 have hE2:∀x,((w.alloc (.cells ROW 54)).drew).frozen? x=W1.frozen? x:=fun x=>by rw[hW1];rfl
 have hF1:∀x,(((w.alloc (.cells ROW 54)).drew.setCells w.heap.size i [u]).drew).cell? x=(W1.setCells w.heap.size i [u]).cell? x:=fun x=>by rw[hW1];rfl
 have hF2:∀x,(((w.alloc (.cells ROW 54)).drew.setCells w.heap.size i [u]).drew).frozen? x=(W1.setCells w.heap.size i [u]).frozen? x:=fun x=>by rw[hW1];rfl
 have mixed:Tryz.prog.follows .mixedOrders=true:=by kernel_rfl
 have HW1:=zh hW1
 clear hown hcells hold hkk hik hN hNf hOb hXl hRt hRs rowW1 gr1 hG hROW hlen hdl hsz
 go_enter Tryz.func114,Tryz.ntmps114
 go_wp2_with (first
  |(at_builtin;refine Lib.wpList_append_run _ rfl _ _ _ _ rfl _ _ rfl rfl _ _ (hrz _) ?_)
  |(at_builtin;refine wpList_copy_runI _ rfl _ _ 50 50 rfl _ _ rfl rfl (hcpA _ hE1 hE2 _ _) ?_))
 go_region_law_o (refine step_copy_runI rfl _ _ 50 50 rfl (.slice (some ⟨w.heap.size,i+1,none⟩) (c-i) (G-(i+1))) (.slice (some ⟨g,i,none⟩) (c-i) (c-i)) (by simp[Act.eval,Act.put]) (by simp[Act.eval,Act.put]) (hcpB _ hF1 hF2 3 (G-(i+1)) (c-i)) ?_)
 go_wp2
 go_returns
 exact⟨w.heap.size,G,rfl,(HEND.out _ (by rw[HW1.out];rfl)).1,(HEND.out _ (by rw[HW1.out];rfl)).2,.inr (Nat.le_refl _)⟩
