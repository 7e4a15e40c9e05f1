/- Plain law: rows added one by one. -/
import Derived.Test.YtjfbjjmiobgjfaaGreatG38
set_option maxRecDepth 100000
set_option maxHeartbeats 8000000
namespace Go.Proofs.YtjfbjjmiobgjfaaGreat
open K (ZaG Zda ZaQ)
theorem Zqs {ar:Nat}{rs:List (List ByteArray)}{t:List ByteArray}(h1:t.length=ar)(h2:ZaP t=false):Zjj ar rs t=31:=by
 unfold Zjj
 have n1:¬t.length≠ar:=by omega
 rw[if_neg n1,if_pos h2]
theorem Zqt {ar:Nat}{rs:List (List ByteArray)}{t:List ByteArray}(h1:t.length=ar)(h2:ZaP t=true)(h3:rs.length<65536)(x:List ByteArray):x∈Zjk ar rs t↔x∈rs∨x=t:=by
 have e:x∈rs↔x∈rs.take (Zhw rs t)∨x∈rs.drop (Zhw rs t):=by rw[←List.mem_append,List.take_append_drop]
 unfold Zjk
 by_cases hb:Ziq ar rs t=true
 ·rw[if_pos hb,List.mem_append,List.mem_cons,e]
  constructor
  ·rintro (h|h|h)
   ·exact .inl (.inl h)
   ·exact .inr h
   ·exact .inl (.inr h)
  ·rintro ((h|h)|h)
   ·exact .inl h
   ·exact .inr (.inr h)
   ·exact .inr (.inl h)
 ·rw[if_neg hb]
  have hm:t∈rs:=by
   by_cases q:0≤Zcn rs t 0
   ·exact(Zc4 t rs 0).1 q
   ·refine absurd ?_ hb
    unfold Ziq
    simp[h1,h2,h3,q]
  constructor
  ·exact .inl
  ·rintro (h|rfl)
   ·exact h
   ·exact hm
theorem Zhg {ar:Nat}{rs:List (List ByteArray)}(h:Zbg rs)(t:List ByteArray):Zbg (Zjk ar rs t):=by
 unfold Zjk
 by_cases hb:Ziq ar rs t=true
 ·rw[if_pos hb,Zlo h]
  obtain⟨_,s1,s2⟩:=ZdP h t
  have hno:t∉rs:=fun q=>by
   have:=(Zc4 t rs 0).2 q
   unfold Ziq at hb
   simp[this] at hb
  have k1:∀a∈rs.take (ZdK rs t),Zaj a t<0:=fun a ha=>by
   obtain⟨i,hi⟩:=List.mem_iff_getElem?.1 ha
   have hlt:=(zgs hi).1
   rw[List.length_take] at hlt
   rw[List.getElem?_take,if_pos (by omega)] at hi
   exact s1 i a (by omega) hi
  have k2:∀b∈rs.drop (ZdK rs t),Zaj t b<0:=fun b hb=>by
   have hm:=List.mem_of_mem_drop hb
   obtain⟨i,hi⟩:=List.mem_iff_getElem?.1 hb
   rw[List.getElem?_drop] at hi
   have q:=s2 _ b (by omega) hi
   have q0:Zaj b t≠0:=fun e=>hno (by rw[←(ZaH _ _).1 e];exact hm)
   rw[Zcg b t]
   omega
  exact List.pairwise_append.2 ⟨h.sublist (List.take_sublist _ _),List.pairwise_cons.2 ⟨k2,h.sublist (List.drop_sublist _ _)⟩,fun a ha b hb=>by
   rcases List.mem_cons.1 hb with rfl|hb
   ·exact k1 a ha
   ·exact ZbB _ _ _ (k1 a ha) (k2 b hb)⟩
 ·rw[if_neg hb]
  exact h
theorem Zgn {ar:Nat}:∀(ts rs:List (List ByteArray)),Zbg rs→Zbg (Zcf ar rs ts).2
 |[],_,h=>h
 |t::ts,rs,h=>by
  unfold Zcf
  split
  ·exact Zgn ts _ (Zhg h t)
  ·exact h
theorem ZjK {rs:List (List ByteArray)}(h:Zbg rs):rs.Nodup:=h.imp fun {a b} hab e=>by
 subst e
 have:=(ZaH a a).2 rfl
 omega
theorem ZoM {ar:Nat}{rs:List (List ByteArray)}{t:List ByteArray}(h1:t.length=ar)(h2:ZaP t=true):Zjj ar rs t=0∧(t∈rs∨rs.length<65536)∨Zjj ar rs t=4∧t∉rs∧65536≤rs.length:=by
 unfold Zjj
 have n1:¬t.length≠ar:=by omega
 have n2:¬ZaP t=false:=by rw[h2];simp
 rw[if_neg n1,if_neg n2]
 by_cases hf:0≤Zcn rs t 0
 ·rw[if_pos hf]
  exact .inl ⟨rfl,.inl ((Zc4 t rs 0).1 hf)⟩
 ·rw[if_neg hf]
  by_cases hl:65536≤rs.length
  ·rw[if_pos hl]
   exact .inr ⟨rfl,fun q=>hf ((Zc4 t rs 0).2 q),hl⟩
  ·rw[if_neg hl]
   exact .inl ⟨rfl,.inr (by omega)⟩
theorem ZmU {ar:Nat}{rs:List (List ByteArray)}{t:List ByteArray}(h:t∈rs):Zjk ar rs t=rs:=by
 unfold Zjk
 rw[if_neg]
 unfold Ziq
 have:=(Zc4 t rs 0).2 h
 simp[this]
theorem Zqu {ar:Nat}{rs:List (List ByteArray)}{t:List ByteArray}(hl:rs.length≤65536):(Zjk ar rs t).length≤65536:=ZlE hl
theorem ZjL {ar:Nat}:∀(ts rs:List (List ByteArray)),Zbg rs→rs.length≤65536→(∀t∈ts,t.length=ar∧ZaP t=true)→((Zcf ar rs ts).1=0∧(∀x,x∈(Zcf ar rs ts).2↔x∈rs∨x∈ts)∧(Zcf ar rs ts).2.length≤65536)∨((Zcf ar rs ts).1=4∧∃rs' t,Zbg rs'∧65536≤rs'.length∧(∀x∈rs',x∈rs∨x∈ts)∧t∈ts∧t∉rs')
 |[],rs,_,hl,_=>.inl ⟨rfl,fun x=>by simp[Zcf],hl⟩
 |t::ts,rs,hr,hl,hg=>by
  obtain⟨g1,g2⟩:=hg t (by simp)
  unfold Zcf
  rcases ZoM (rs:=rs) g1 g2 with⟨e,hc⟩|⟨e,hn,hf⟩
  ·rw[if_pos e]
   have hm:∀x,x∈Zjk ar rs t↔x∈rs∨x=t:=fun x=>by
    rcases hc with hc|hc
    ·rw[ZmU hc]
     constructor
     ·exact .inl
     ·rintro (h|rfl)
      ·exact h
      ·exact hc
    ·exact Zqt g1 g2 hc x
   rcases ZjL ts (Zjk ar rs t) (Zhg hr t) (Zqu hl) (fun u hu=>hg u (List.mem_cons_of_mem _ hu)) with⟨k1,k2,k3⟩|⟨k1,rs',u,k2,k3,k4,k5,k6⟩
   ·refine .inl ⟨k1,fun x=>?_,k3⟩
    rw[k2,hm,List.mem_cons]
    constructor
    ·rintro ((h|h)|h)
     ·exact .inl h
     ·exact .inr (.inl h)
     ·exact .inr (.inr h)
    ·rintro (h|h|h)
     ·exact .inl (.inl h)
     ·exact .inl (.inr h)
     ·exact .inr h
   ·refine .inr ⟨k1,rs',u,k2,k3,fun x hx=>?_,List.mem_cons_of_mem _ k5,k6⟩
    rcases k4 x hx with h|h
    ·rcases (hm x).1 h with h|h
     ·exact .inl h
     ·exact .inr (by rw[h];simp)
    ·exact .inr (List.mem_cons_of_mem _ h)
  ·rw[e,if_neg (by decide)]
   exact .inr ⟨rfl,rs,t,hr,hf,fun x hx=>.inl hx,by simp,hn⟩
theorem ZlT {rs m:List (List ByteArray)}{t:List ByteArray}(hr:Zbg rs)(hn:t∉rs)(hl:65536≤rs.length)(hs:∀x∈rs,x∈m)(ht:t∈m)(hm:m.length≤65536):False:=by
 have:=ZiN (l:=t::rs) (m:=m) (List.nodup_cons.2 ⟨hn,ZjK hr⟩) (fun x hx=>(List.mem_cons.1 hx).elim (fun e=>e ▸ ht) (hs x))
 rw[List.length_cons] at this
 omega
theorem ZoN {ar:Nat}{H:List ByteArray→Prop}{hs:List (List ByteArray)}(hm:∀y,y∈hs↔H y)(hlen:∀t∈hs,t.length=ar)(huni:(∀t∈hs,ZaP t=true)∨∀t∈hs,ZaP t=false):
  (∀rows,Zbs ar rows→(∀y,y∈rows↔H y)→(Zcf ar [] hs).1=0∧(Zcf ar [] hs).2=rows)∧
  (∀er rows t,er≠0→Zbs ar rows→(∀y∈rows,H y)→H t→Za5 ar rows t=er→(Zcf ar [] hs).1=er):=by
 rcases huni with hg|hb
 ·have key:=ZjL (ar:=ar) hs [] List.Pairwise.nil (by simp) (fun t ht=>⟨hlen t ht,hg t ht⟩)
  refine⟨fun rows ok hr=>?_,fun er rows t he ok hr ht ha=>?_⟩
  ·rcases key with⟨k1,k2,k3⟩|⟨k1,rs',u,k2,k3,k4,k5,k6⟩
   ·refine⟨k1,Zia (Zgn hs [] List.Pairwise.nil) ok.up fun x=>?_⟩
    rw[k2,hr,←hm]
    simp
   ·refine(ZlT k2 k6 k3 (fun x hx=>?_) ?_ ok.few).elim
    ·rcases k4 x hx with h|h
     ·cases h
     ·exact(hr x).2 ((hm x).1 h)
    ·exact(hr u).2 ((hm u).1 k5)
  ·have ht':=(hm t).2 ht
   have hl:=hlen t ht'
   have hmay:=hg t ht'
   have n1:¬t.length≠ar:=by omega
   have n2:¬ZaP t=false:=by rw[hmay];simp
   unfold Za5 at ha
   rw[if_neg n1,if_neg n2] at ha
   split at ha
   ·rename_i hc
    have hnt:t∉rows:=fun q=>by
     have:=(Zdu ok.up t).2 q
     rw[hc.2] at this
     cases this
    rcases key with⟨k1,k2,k3⟩|⟨k1,_⟩
    ·refine(ZlT ok.up hnt hc.1 (fun x hx=>?_) ?_ k3).elim
     ·exact(k2 x).2 (.inr ((hm x).2 (hr x hx)))
     ·exact(k2 t).2 (.inr ht')
    ·rw[k1,ha]
   ·exact absurd ha.symm he
 ·refine⟨fun rows ok hr=>?_,fun er rows t he ok hr ht ha=>?_⟩
  ·have hnil:hs=[]:=by
    cases hs with
    |nil=>rfl
    |cons u us=>
     have h1:=hb u (by simp)
     have h2:=(ok.row u ((hr u).2 ((hm u).1 (by simp)))).2
     rw[h1] at h2
     cases h2
   subst hnil
   have hrn:rows=[]:=by
    cases rows with
    |nil=>rfl
    |cons u us=>have:=(hm u).2 ((hr u).1 (by simp));cases this
   rw[hrn]
   exact⟨rfl,rfl⟩
  ·have ht':=(hm t).2 ht
   have n1:¬t.length≠ar:=by have:=hlen t ht';omega
   unfold Za5 at ha
   rw[if_neg n1,if_pos (hb t ht')] at ha
   cases hs with
   |nil=>cases ht'
   |cons u us=>
    unfold Zcf
    rw[Zqs (hlen u (by simp)) (hb u (by simp)),if_neg (by decide)]
    exact ha
