/- Plain law of fresh bindings: one literal over what is in two bases, the others over all, is: all over all, and one literal touched. -/
import Derived.Test.YtjfbjjmiobgjfaaGreatG37
set_option maxRecDepth 100000
set_option maxHeartbeats 8000000
namespace Go.Proofs.YtjfbjjmiobgjfaaGreat
open K (ZaG Zda ZaQ)
abbrev ZlQ (fa fB:ZaT)(i:Nat):Nat→ZaT:=fun j=>if j=i then fB else fa
theorem ZoK {r:ZaQ}{fa fB:ZaT}(hsub:∀k q,q∈Zan fB k→q∈Zan fa k)(x:List ByteArray):(∃(i:Nat) (l:K.Lit),r.body[i]? =some l∧l.kind=1∧Zan fB l.atom.pred≠[]∧Zee r (ZlQ fa fB i) x)↔Zee r (fun _=>fa) x∧∃(i:Nat) (l:K.Lit),r.body[i]? =some l∧l.kind=1∧∃q∈Zan fB l.atom.pred,Zec (Zad r) l.atom.terms q ((ZaC (Zad r) l.atom.terms).map (gt x)):=by
 constructor
 ·rintro⟨i,l,hl,hk,hne,hb⟩
  refine⟨⟨hb.len,fun j l' hl' hk'=>?_,fun j l' hl' hk' q hq=>?_,hb.cmp⟩,i,l,hl,hk,?_⟩
  ·obtain⟨q,h1,h2⟩:=hb.pos j l' hl' hk'
   refine⟨q,?_,h2⟩
   by_cases hj:j=i
   ·subst hj
    exact hsub _ _ (by simpa [ZlQ] using h1)
   ·simpa [ZlQ,hj] using h1
  ·by_cases hj:j=i
   ·subst hj
    rw[hl] at hl'
    cases hl'
    omega
   ·exact hb.neg j l' hl' hk' q (by simpa [ZlQ,hj] using hq)
  ·obtain⟨q,h1,h2⟩:=hb.pos i l hl hk
   exact⟨q,by simpa [ZlQ] using h1,h2⟩
 ·rintro⟨hb,i,l,hl,hk,q,hq,h2⟩
  refine⟨i,l,hl,hk,List.ne_nil_of_mem hq,hb.len,fun j l' hl' hk'=>?_,fun j l' hl' hk' q' hq'=>?_,hb.cmp⟩
  ·by_cases hj:j=i
   ·subst hj
    rw[hl] at hl'
    cases hl'
    exact⟨q,by simpa [ZlQ] using hq,h2⟩
   ·obtain⟨q',h3,h4⟩:=hb.pos j l' hl' hk'
    exact⟨q',by simpa [ZlQ,hj] using h3,h4⟩
  ·by_cases hj:j=i
   ·subst hj
    rw[hl] at hl'
    cases hl'
    omega
   ·exact hb.neg j l' hl' hk' q' (by simpa [ZlQ,hj] using hq')
theorem Zc4 (t:List ByteArray):∀(rs:List (List ByteArray)) (k:Nat),0≤Zcn rs t k↔t∈rs
 |[],k=>by simp[Zcn]
 |r::rs,k=>by
  rw[ZhN]
  by_cases h:Zaj r t=0
  ·rw[if_pos h]
   have:=(ZaH _ _).1 h
   subst this
   simp
  ·rw[if_neg h,Zc4 t rs (k+1),List.mem_cons]
   constructor
   ·exact .inr
   ·rintro (rfl|q)
    ·exact absurd ((ZaH _ _).2 rfl) h
    ·exact q
theorem ZlR (dl:List Za7)(k:ByteArray)(t:List ByteArray):Zpx dl k t=true↔t∈ZaW dl k:=by
 unfold Zpx ZaW
 cases Zbe dl k with
 |none=>simp
 |some x=>simp[Zc4]
theorem ZjI {r:ZaQ}{all last:List Za7}{fl:ZaT}(hf:∀k q,q∈Zan fl k↔q∈ZaW last k∧q∈ZaW all k)(h:Zap r=0){x:List ByteArray}(hx:x.length=(Zad r).length):Zfk r x all last=true↔∃(i:Nat) (l:K.Lit),r.body[i]? =some l∧l.kind=1∧∃q∈Zan fl l.atom.pred,Zec (Zad r) l.atom.terms q ((ZaC (Zad r) l.atom.terms).map (gt x)):=by
 unfold Zfk
 rw[List.any_eq_true]
 constructor
 ·rintro⟨l,hl,ht⟩
  rw[Bool.and_eq_true,decide_eq_true_eq,List.any_eq_true] at ht
  obtain⟨hk,q,hq,ht⟩:=ht
  unfold Zdr at ht
  simp only[Bool.and_eq_true,beq_iff_eq] at ht
  obtain⟨i,hi⟩:=List.mem_iff_getElem?.1 hl
  refine⟨i,l,hi,hk,q,(hf _ _).2 ⟨hq,(ZlR _ _ _).1 ht.1.2⟩,?_⟩
  rw[ZcY (ZaI r) (Zf7 h hl (.inl hk))]
  exact(Zfs (ZaI r) hx.symm (Zf7 h hl (.inl hk)) q ht.1.1).1 ht.2
 ·rintro⟨i,l,hi,hk,q,hq,ht⟩
  have hl:=zmg hi
  rw[ZcY (ZaI r) (Zf7 h hl (.inl hk))] at ht
  obtain⟨hq,hqa⟩:=(hf _ _).1 hq
  refine⟨l,hl,?_⟩
  rw[Bool.and_eq_true,decide_eq_true_eq,List.any_eq_true]
  refine⟨hk,q,hq,?_⟩
  unfold Zdr
  simp only[Bool.and_eq_true,beq_iff_eq]
  exact⟨⟨ht.1,(ZlR _ _ _).2 hqa⟩,(Zfs (ZaI r) hx.symm (Zf7 h hl (.inl hk)) q ht.1).2 ht⟩
theorem ZoL {r:ZaQ}{all last:List Za7}{fa fl:ZaT}(ha:∀k,Zan fa k=ZaW all k)(hf:∀k q,q∈Zan fl k↔q∈ZaW last k∧q∈ZaW all k)(h:Zap r=0)(x:List ByteArray):x∈(ZbS r all).filter (fun x=>Zfk r x all last)↔∃(i:Nat) (l:K.Lit),r.body[i]? =some l∧l.kind=1∧Zan fl l.atom.pred≠[]∧Zee r (ZlQ fa fl i) x:=by
 rw[List.mem_filter,ZoK (fun k q hq=>by rw[ha];exact((hf k q).1 hq).2) x,ZoJ ha h]
 constructor
 ·rintro⟨h1,h2⟩
  exact⟨h1,(ZjI hf h h1.len).1 h2⟩
 ·rintro⟨h1,h2⟩
  exact⟨h1,(ZjI hf h h1.len).2 h2⟩
theorem Zhf {r:ZaQ}(h:Zap r=0)(hag:r.head.terms.any ZfY=false):∀t∈r.head.terms,t.kind=3∨t.kind=1∧t.text∈Zad r:=by
 intro t ht
 have hs:=(Zdy h).2 t ht
 have hok:Zb7 r.head.terms=true:=by
  by_cases q:Zb7 r.head.terms=true
  ·exact q
  ·unfold Zap at h
   rw[if_pos (by simpa using q)] at h
   cases h
 have ha:ZfY t=false:=by
  have:=List.any_eq_false.1 hag t ht
  simpa using this
 unfold Zb7 at hok
 simp only[Bool.and_eq_true,Bool.not_eq_true'] at hok
 have ho:=List.any_eq_false.1 hok.1 t ht
 unfold Znc at ho
 unfold ZfY at ha
 unfold Zbz at hs
 by_cases k3:t.kind=3
 ·exact .inl k3
 ·by_cases k2:t.kind=2
  ·rw[if_pos k2] at hs;cases hs
  ·simp only[Bool.or_eq_true,decide_eq_true_eq,not_or] at ho
   simp only[Bool.and_eq_false_iff,decide_eq_false_iff_not] at ha
   have k1:t.kind=1:=by omega
   rw[if_neg k2,if_neg (by omega)] at hs
   exact .inr ⟨k1,of_decide_eq_true hs⟩
theorem Zft {r:ZaQ}(h:Zap r=0)(hag:r.head.terms.any ZfY=false){x:List ByteArray}(hx:x.length=(Zad r).length):Zfi r x=Zbj r x:=by
 have hk:=Zhf h hag
 unfold Zfi Zbj
 generalize ([]:List ByteArray)=out
 generalize r.head.terms=ts at hk
 induction ts generalizing out with
 |nil=>rfl
 |cons t ts ih=>
  have e:Zbd (Zad r) x out t=ZbF (Zad r) x out t:=by
   unfold Zbd ZbF ZcI
   rcases hk t (by simp) with k3|⟨k1,hm⟩
   ·have k4:t.kind<4:=by omega
    rw[if_pos k4,if_pos k3,if_pos k3]
   ·have k4:t.kind<4:=by omega
    have k3:¬t.kind=3:=by omega
    rw[if_pos k4,if_neg k3,if_neg k3,if_pos k1,Zfq (ZaI r) hx.symm hm]
    rfl
  rw[List.foldl_cons,List.foldl_cons,e]
  exact ih _ (fun u hu=>hk u (List.mem_cons_of_mem _ hu))
theorem ZiN:∀{l m:List (List ByteArray)},l.Nodup→(∀x∈l,x∈m)→l.length≤m.length
 |[],_,_,_=>Nat.zero_le _
 |x::xs,m,h,hs=>by
  obtain⟨h1,h2⟩:=List.nodup_cons.1 h
  have hx:=hs x (by simp)
  have:=ZiN (l:=xs) (m:=m.erase x) h2 (fun y hy=>(List.mem_erase_of_ne (fun e=>h1 (by first|(rw [←e];exact hy)|(rw [e];exact hy)))).2 (hs y (List.mem_cons_of_mem _ hy)))
  rw[List.length_erase_of_mem hx] at this
  have hp:=List.length_pos_of_mem hx
  rw[List.length_cons]
  omega
def Zh0 (C:List ByteArray):Nat→List (List ByteArray)
 |0=>[[]]
 |n+1=>C.flatMap fun c=>(Zh0 C n).map (c::·)
theorem ZlS {α:Type}(f:ByteArray→List α)(k:Nat)(h:∀c,(f c).length=k):∀C:List ByteArray,(C.flatMap f).length=C.length*k
 |[]=>by simp
 |c::C=>by rw[List.flatMap_cons,List.length_append,h,ZlS f k h C,List.length_cons,Nat.succ_mul];omega
theorem Zh1 (C:List ByteArray):∀n,(Zh0 C n).length=C.length^n
 |0=>rfl
 |n+1=>by
  unfold Zh0
  rw[ZlS _ (C.length^n) (fun c=>by rw[List.length_map,Zh1 C n]),Nat.pow_succ,Nat.mul_comm]
theorem Zh2 (C:List ByteArray):∀x:List ByteArray,(∀y∈x,y∈C)→x∈Zh0 C x.length
 |[],_=>by simp[Zh0]
 |y::x,h=>by
  rw[List.length_cons]
  unfold Zh0
  exact List.mem_flatMap.2 ⟨y,h y (by simp),List.mem_map.2 ⟨x,Zh2 C x (fun z hz=>h z (List.mem_cons_of_mem _ hz)),rfl⟩⟩
theorem ZjJ {r:ZaQ}{dl:List Za7}{x:List ByteArray}(hx:x∈ZbS r dl):∀y∈x,∃l∈r.body,l.kind=1∧∃q∈ZaW dl l.atom.pred,y∈q:=by
 intro y hy
 obtain⟨h1,h2,_⟩:=(ZgD r dl x).1 hx
 obtain⟨v,hv⟩:=List.mem_iff_getElem?.1 hy
 have hvl:=(zgs hv).1
 obtain⟨nm,hnm⟩:∃nm,(Zad r)[v]? =some nm:=⟨_,zge (by omega)⟩
 obtain⟨l,hl,hk,ht⟩:=(Zg8 r nm).1 (zmg hnm)
 obtain⟨q,hq,ho⟩:=h2 l hl hk
 have hql:=ZcJ q hq
 refine⟨l,hl,hk,q,(List.mem_filter.1 hq).1,?_⟩
 obtain⟨j,hj⟩:=List.mem_iff_getElem?.1 ht
 have hjl:=(zgs hj).1
 have hqj:q[j]? =some (gt q j):=by unfold gt;rw[zge (by omega)];rfl
 have hp:=(ho (Zf2 nm,gt q j) (zmg (i:=j) (by rw[List.getElem?_zip_eq_some];exact⟨hj,hqj⟩))).2 rfl
 have hm:=zmg hnm
 have hs:ZbM (Zad r) x nm=some y:=by
  refine ZgC (fun hmt=>?_) hnm hv
  obtain⟨i,hi⟩:=List.mem_iff_getElem?.1 hmt
  have hil:=(zgs hi).1
  rw[List.length_take] at hil
  rw[List.getElem?_take,if_pos (by omega)] at hi
  obtain⟨p1,e1⟩:=zgs hi
  obtain⟨p2,e2⟩:=zgs hnm
  exact List.pairwise_iff_getElem.1 (ZaI r) i v p1 p2 (by omega) (e1.trans e2.symm)
 have hp:ZbM (Zad r) x nm=some (gt q j):=hp
 rw[hs] at hp
 cases hp
 exact zmg hqj
theorem Zqr {r:ZaQ}{dl:List Za7}(C:List ByteArray)(hC:∀k,∀q∈ZaW dl k,∀y∈q,y∈C):(ZbS r dl).length≤C.length^(Zad r).length:=by
 rw[←Zh1]
 refine ZiN (ZmG r dl) fun x hx=>?_
 rw[←((ZgD r dl x).1 hx).1]
 refine Zh2 C x fun y hy=>?_
 obtain⟨l,_,_,q,hq,hyq⟩:=ZjJ hx y hy
 exact hC _ q hq y hyq
