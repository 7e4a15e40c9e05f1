/- Leaping, a plain law: cursors at one variable meet just the constants that all of them have. -/
import Derived.Test.YtjfbjjmiobgjfaaGreatG12
set_option maxRecDepth 100000
set_option maxHeartbeats 8000000
namespace Go.Proofs.YtjfbjjmiobgjfaaGreat
def atv (ts:List JT)(v:Nat):List Nat:=(List.range ts.length).filter fun i=>match ts[i]? with
 |some t=>decide (v∈t.vars)
 |none=>false
theorem ZcO (ts:List JT)(v i:Nat):i∈atv ts v↔∃t,ts[i]? =some t∧v∈t.vars:=by
 unfold atv
 rw[List.mem_filter,List.mem_range]
 constructor
 ·rintro⟨h1,h2⟩
  rw[zge h1] at h2
  exact⟨_,zge h1,by simpa using h2⟩
 ·rintro⟨t,h1,h2⟩
  refine⟨(zgs h1).1,?_⟩
  rw[h1]
  simpa using h2
theorem Zik (ts:List JT)(v:Nat):(atv ts v).length≤ts.length:=by
 unfold atv
 exact Nat.le_trans (List.length_filter_le _ _) (by simp)
theorem Zd4 {ks:List ByteArray}(h:ZgS ks){i j:Nat}{x y:ByteArray}(hij:i<j)(hx:ks[i]? =some x)(hy:ks[j]? =some y):ltB x y=true:=by
 obtain⟨h1,rfl⟩:=zgs hx
 obtain⟨h2,rfl⟩:=zgs hy
 exact(List.pairwise_iff_getElem.1 h) i j h1 h2 hij
structure ZdL (ts:List JT)(row:List ByteArray)(v:Nat)(pos:Nat→Nat)(mm i:Nat):Prop where
 le:∀i t,ts[i]? =some t→v∈t.vars→pos i≤(t.keys row v).length
 mm_le:mm≤(ZbQ ts row v).length
 pend:∀k∈(ZbQ ts row v).drop mm,∀i t,ts[i]? =some t→v∈t.vars→∃q,pos i≤q∧(t.keys row v)[q]? =some k
 done:∀k∈(ZbQ ts row v).take mm,∀t,ts[i]? =some t→∀y,(t.keys row v)[pos i]? =some y→ltB k y=true
def Zlk (pos:Nat→Nat)(i j:Nat):Nat→Nat:=fun k=>if k=i then j else pos k
theorem Zbm (pos:Nat→Nat)(i j:Nat):Zlk pos i j i=j:=by simp[Zlk]
theorem Zch (pos:Nat→Nat){i k:Nat}(j:Nat)(h:k≠i):Zlk pos i j k=pos k:=by simp[Zlk,h]
section
variable {n:Nat} {ts:List JT} {row:List ByteArray} {v mm i:Nat} {pos:Nat→Nat}
theorem ZdL.start (hv:∃t∈ts,v∈t.vars)(i:Nat):ZdL ts row v (fun _=>0) 0 i:=by
 refine⟨fun _ _ _ _=>Nat.zero_le _,Nat.zero_le _,fun k hk i t h1 h2=>?_,fun k hk=>by simp at hk⟩
 rw[List.drop_zero] at hk
 obtain⟨q,hq⟩:=List.mem_iff_getElem?.1 ((ZfN row hv k).1 hk t (zmg h1) h2)
 exact⟨q,Nat.zero_le _,hq⟩
theorem ZdL.fin (h:ZdL ts row v pos mm i){c:Nat}{t:JT}(hc:ts[c]? =some t)(hv:v∈t.vars)(he:pos c=(t.keys row v).length):mm=(ZbQ ts row v).length:=by
 rcases Nat.lt_or_ge mm (ZbQ ts row v).length with h1|h1
 ·exfalso
  obtain⟨q,q1,q2⟩:=h.pend _ (List.mem_iff_getElem?.2 ⟨0,by rw[List.getElem?_drop,Nat.add_zero];exact zge h1⟩) c t hc hv
  have:=(zgs q2).1
  omega
 ·have:=h.mm_le
  omega
theorem ZdL.ge (hts:∀t∈ts,t.Ok n)(h:ZdL ts row v pos mm i){c:Nat}{t:JT}(hc:ts[c]? =some t)(hv:v∈t.vars){key:ByteArray}(hk:(t.keys row v)[pos c]? =some key){k:ByteArray}(hp:k∈(ZbQ ts row v).drop mm):key=k∨ltB key k=true:=by
 obtain⟨q,q1,q2⟩:=h.pend k hp c t hc hv
 rcases Nat.eq_or_lt_of_le q1 with e|e
 ·subst e
  rw[hk] at q2
  exact .inl (by injection q2)
 ·exact .inr (Zd4 ((hts t (zmg hc)).keys_rising row hv) e hk q2)
theorem ZdL.seek (hts:∀t∈ts,t.Ok n)(h:ZdL ts row v pos mm i){t:JT}(hi:ts[i]? =some t)(hvi:v∈t.vars){key:ByteArray}(hk:(t.keys row v)[pos i]? =some key){c:Nat}{t':JT}(hc:ts[c]? =some t')(hvc:v∈t'.vars){j:Nat}
  (j1:pos c≤j) (j2:j≤(t'.keys row v).length) (j3:∀q y,pos c≤q→q<j→(t'.keys row v)[q]? =some y→ltB y key=true):ZdL ts row v (Zlk pos c j) mm i∧(c=i→j=pos i):=by
 have hci:c=i→j=pos i:=fun e=>by
  subst e
  rw[hi] at hc
  cases hc
  rcases Nat.eq_or_lt_of_le j1 with e|e
  ·exact e.symm
  ·exact absurd (j3 _ key (Nat.le_refl _) e hk) (Zbb key)
 refine⟨⟨fun k tk h1 h2=>?_,h.mm_le,fun k hp x tx h1 h2=>?_,fun k hd tk h1 y hy=>?_⟩,hci⟩
 ·by_cases e:k=c
  ·subst e
   rw[hc] at h1
   cases h1
   rw[Zbm]
   exact j2
  ·rw[Zch pos _ e]
   exact h.le k tk h1 h2
 ·obtain⟨q,q1,q2⟩:=h.pend k hp x tx h1 h2
  by_cases e:x=c
  ·subst e
   rw[hc] at h1
   cases h1
   refine⟨q,?_,q2⟩
   rw[Zbm]
   rcases Nat.lt_or_ge q j with h3|h3
   ·exfalso
    have h4:=j3 q k q1 h3 q2
    rcases h.ge hts hi hvi hk hp with e2|e2
    ·subst e2
     exact Zbb _ h4
    ·exact Zbb _ (Zbp h4 e2)
   ·exact h3
  ·rw[Zch pos _ e]
   exact⟨q,q1,q2⟩
 ·by_cases e:i=c
  ·have:=hci e.symm
   subst e
   rw[Zbm,this] at hy
   exact h.done k hd tk h1 y hy
  ·rw[Zch pos _ e] at hy
   exact h.done k hd tk h1 y hy
theorem ZdL.turn (h:ZdL ts row v pos mm i){t:JT}(hi:ts[i]? =some t){key:ByteArray}(hk:(t.keys row v)[pos i]? =some key){c:Nat}{t':JT}(hc:ts[c]? =some t'){y:ByteArray}(hy:(t'.keys row v)[pos c]? =some y)(hlt:ltB key y=true):ZdL ts row v pos mm c:=
 ⟨h.le,h.mm_le,h.pend,fun k hd tk h1 z hz=>by
  rw[hc] at h1
  cases h1
  rw[hy] at hz
  cases hz
  exact Zbp (h.done k hd t hi key hk) hlt⟩
theorem ZdL.hit (hts:∀t∈ts,t.Ok n)(h:ZdL ts row v pos mm i){t:JT}(hi:ts[i]? =some t)(hvi:v∈t.vars){key:ByteArray}(hall:∀c t',ts[c]? =some t'→v∈t'.vars→(t'.keys row v)[pos c]? =some key):(ZbQ ts row v)[mm]? =some key:=by
 have hm:key∈ZbQ ts row v:=(ZfN row ⟨t,zmg hi,hvi⟩ key).2 fun t' h1 h2=>by
  obtain⟨c,hc⟩:=List.mem_iff_getElem?.1 h1
  exact zmg (hall c t' hc h2)
 obtain⟨q,hq⟩:=List.mem_iff_getElem?.1 hm
 have hr:=Ze6 hts row v
 have hqlt:=(zgs hq).1
 rcases Nat.lt_trichotomy q mm with h1|h1|h1
 ·exfalso
  refine Zbb key (h.done key (List.mem_iff_getElem?.2 ⟨q,?_⟩) t hi key (hall i t hi hvi))
  rw[List.getElem?_take,if_pos h1]
  exact hq
 ·rw[←h1]
  exact hq
 ·exfalso
  obtain⟨z,hz⟩:∃z,(ZbQ ts row v)[mm]? =some z:=⟨_,zge (by omega)⟩
  have hlt:=Zd4 hr h1 hz hq
  rcases h.ge hts hi hvi (hall i t hi hvi) (List.mem_iff_getElem?.2 ⟨0,by rw[List.getElem?_drop,Nat.add_zero];exact hz⟩) with e|e
  ·subst e
   exact Zbb _ hlt
  ·exact Zbb _ (Zbp hlt e)
theorem ZdL.next (hts:∀t∈ts,t.Ok n)(h:ZdL ts row v pos mm i){t:JT}(hi:ts[i]? =some t)(hvi:v∈t.vars){key:ByteArray}(hk:(t.keys row v)[pos i]? =some key)(hm:(ZbQ ts row v)[mm]? =some key):ZdL ts row v (Zlk pos i (pos i+1)) (mm+1) i:=by
 have hr:=Ze6 hts row v
 have hri:=(hts t (zmg hi)).keys_rising row hvi
 have hmlt:=(zgs hm).1
 refine⟨fun k tk h1 h2=>?_,by omega,fun k hp x tx h1 h2=>?_,fun k hd tk h1 y hy=>?_⟩
 ·by_cases e:k=i
  ·subst e
   rw[hi] at h1
   cases h1
   rw[Zbm]
   have:=(zgs hk).1
   omega
  ·rw[Zch pos _ e]
   exact h.le k tk h1 h2
 ·have hp0:k∈(ZbQ ts row v).drop mm:=by
   obtain⟨q,hq⟩:=List.mem_iff_getElem?.1 hp
   rw[List.getElem?_drop] at hq
   exact List.mem_iff_getElem?.2 ⟨q+1,by rw[List.getElem?_drop,show mm+(q+1)=mm+1+q by omega];exact hq⟩
  have hkk:ltB key k=true:=by
   obtain⟨q,hq⟩:=List.mem_iff_getElem?.1 hp
   rw[List.getElem?_drop] at hq
   exact Zd4 hr (by omega) hm hq
  obtain⟨q,q1,q2⟩:=h.pend k hp0 x tx h1 h2
  by_cases e:x=i
  ·subst e
   rw[hi] at h1
   cases h1
   refine⟨q,?_,q2⟩
   rw[Zbm]
   rcases Nat.eq_or_lt_of_le q1 with e|e
   ·subst e
    rw[hk] at q2
    cases q2
    exact absurd hkk (Zbb _)
   ·exact e
  ·rw[Zch pos _ e]
   exact⟨q,q1,q2⟩
 ·rw[hi] at h1
  cases h1
  rw[Zbm] at hy
  have hky:=Zd4 hri (Nat.lt_succ_self _) hk hy
  rw[List.take_add_one,hm] at hd
  rcases List.mem_append.1 hd with hd|hd
  ·exact Zbp (h.done k hd t hi key hk) hky
  ·have:k=key:=by simpa using hd
   rw[this]
   exact hky
def Zje (ts:List JT)(row:List ByteArray)(v:Nat)(y:ByteArray):Nat:=((ts.flatMap fun t=>t.keys row v).filter fun k=>!ltB k y).length
theorem Zil {α:Type}{l:List α}{p q:α→Bool}(hpq:∀x∈l,p x=true→q x=true){x:α}(hx:x∈l)(h1:p x=false)(h2:q x=true):(l.filter p).length<(l.filter q).length:=by
 induction l with
 |nil=>cases hx
 |cons a l ih=>
  have hle:(l.filter p).length≤(l.filter q).length:=by
   clear ih hx h1 h2
   induction l with
   |nil=>exact Nat.le_refl _
   |cons b l ih2=>
    have ih2:=ih2 fun x hx=>hpq x (by rcases List.mem_cons.1 hx with h|h <;> simp[h])
    by_cases hb:p b=true
    ·rw[List.filter_cons_of_pos hb,List.filter_cons_of_pos (hpq b (by simp) hb)]
     simp only[List.length_cons]
     omega
    ·rw[List.filter_cons_of_neg hb,List.filter_cons]
     split
     ·simp only[List.length_cons]
      omega
     ·exact ih2
  rcases List.mem_cons.1 hx with rfl|hx
  ·rw[List.filter_cons_of_neg (by simp[h1]),List.filter_cons_of_pos h2,List.length_cons]
   omega
  ·have ih:=ih (fun x hx=>hpq x (List.mem_cons_of_mem _ hx)) hx
   by_cases ha:p a=true
   ·rw[List.filter_cons_of_pos ha,List.filter_cons_of_pos (hpq a (by simp) ha)]
    simp only[List.length_cons]
    omega
   ·rw[List.filter_cons_of_neg ha,List.filter_cons]
    split
    ·simp only[List.length_cons]
     omega
    ·exact ih
theorem Zns {t:JT}{c:Nat}(hc:ts[c]? =some t){q:Nat}{key y:ByteArray}(hk:(t.keys row v)[q]? =some key)(hlt:ltB key y=true):Zje ts row v y<Zje ts row v key:=by
 refine Zil (fun x _ hx=>?_) (x:=key) (List.mem_flatMap.2 ⟨t,zmg hc,zmg hk⟩) (by simp[hlt]) (by simpa using Zbb key)
 simp only[Bool.not_eq_true'] at hx ⊢
 cases h:ltB x key with
 |false=>rfl
 |true=>
  rw[Zbp h hlt] at hx
  cases hx
end
def lvl (ts:List JT)(row:List ByteArray)(v:Nat)(L:Nat→List RLv)(pos:Nat→Nat)(i:Nat):List RLv:=match ts[i]? with
 |some t=>if v∈t.vars then L i++[(t.keys row v,pos i)] else L i
 |none=>L i
theorem ZeG {ts:List JT}{row:List ByteArray}{v:Nat}(L:Nat→List RLv)(pos:Nat→Nat){i:Nat}{t:JT}(h:ts[i]? =some t)(hv:v∈t.vars):lvl ts row v L pos i=L i++[(t.keys row v,pos i)]:=by
 unfold lvl
 rw[h]
 exact if_pos hv
theorem Zkl {ts:List JT}{row:List ByteArray}{v:Nat}(L:Nat→List RLv)(pos:Nat→Nat){i:Nat}(h:i∉atv ts v):lvl ts row v L pos i=L i:=by
 unfold lvl
 cases ht:ts[i]? with
 |none=>rfl
 |some t=>exact if_neg fun hv=>h ((ZcO ts v i).2 ⟨t,ht,hv⟩)
open ChangeShapes WideShapes ChangeAt RowKit
structure Sta (sc:Scn):Prop where
 jok:∀t∈sc.ts,t.Ok sc.n
 big:∀t∈sc.ts,t.vars.length≤64∧t.rows.length≤1000000
 all:∀v,v<sc.n→∃t∈sc.ts,v∈t.vars
 nn:sc.n≤1000000000000∧sc.ts.length≤1000000000000
 lens:sc.pcs.length=sc.ts.length∧sc.pts.length=sc.ts.length
 tries:∀W,Zah sc.T sc.w2 W→∀(i:Nat) (t:JT) (pt:Nat),sc.ts[i]? =some t→sc.pts[i]? =some pt→ZbV W pt t.vars.length t.rows
 walk:∀W,Zah sc.T sc.w2 W→W.cell? ⟨sc.pw,0,none⟩=some (.pointer (some ⟨sc.pm,0,none⟩))∧W.cell? ⟨sc.pw,2,none⟩=some (.slice (some ⟨sc.gr,0,none⟩) sc.n sc.cr)∧W.cell? ⟨sc.pw,3,none⟩=some sc.yv
theorem Sta.of {sc:Scn}(ST:Sta sc){i:Nat}{t:JT}(ht:sc.ts[i]? =some t):∃pc pt,sc.pcs[i]? =some pc∧sc.pts[i]? =some pt:=by
 have:=(zgs ht).1
 have:=ST.lens
 exact⟨_,_,zge (by omega),zge (by omega)⟩
section
variable {sc:Scn} {J:(Nat→Prop)→World→Prop} {W:World} {row:List ByteArray} {L:Nat→List RLv} {F:Nat→Prop} {i:Nat} {t:JT} {pc:Nat}
theorem ZrZ (ST:Sta sc)(hJ:ZbR sc J)(h:WSt sc J W row L F)(ht:sc.ts[i]? =some t)(hc:sc.pcs[i]? =some pc){base:List RLv}{l:List ByteArray}{k:Nat}(hL:L i=base++[(l,k)]):
  Calls Tryz.prog 154 #[.pointer (some ⟨pc,0,none⟩)] W fun e w'=>e=.returned (.bool (decide (k=l.length)))∧∃q,w'=W.drewN q:=by
 obtain⟨_,pt,_,hp⟩:=ST.of ht
 obtain⟨S,h1,_⟩:=h.cur hJ ht hc hp
 rw[hL] at h1
 exact ZrW (ST.jok t (zmg ht)).ways h1
theorem Ztu (ST:Sta sc)(hJ:ZbR sc J)(h:WSt sc J W row L F)(ht:sc.ts[i]? =some t)(hc:sc.pcs[i]? =some pc){base:List RLv}{l:List ByteArray}{k:Nat}(hL:L i=base++[(l,k)]){x:ByteArray}(hx:l[k]? =some x):
  Calls Tryz.prog 160 #[.pointer (some ⟨pc,0,none⟩)] W fun e w'=>e=.returned (.string x)∧∃q,w'=W.drewN q:=by
 obtain⟨_,pt,_,hp⟩:=ST.of ht
 obtain⟨S,h1,_⟩:=h.cur hJ ht hc hp
 rw[hL] at h1
 exact ZuI (ST.jok t (zmg ht)).ways h1 (ST.tries W h.env i t pt ht hp) hx
theorem Ztv (ST:Sta sc)(hJ:ZbR sc J)(h:WSt sc J W row L F)(ht:sc.ts[i]? =some t)(hc:sc.pcs[i]? =some pc){base:List RLv}{l:List ByteArray}{k:Nat}(hL:L i=base++[(l,k)])(hk:k<l.length):
  Calls Tryz.prog 162 #[.pointer (some ⟨pc,0,none⟩)] W fun e w'=>e=.returned (.bool (decide (k+1<l.length)))∧Mv sc J W row (Zmr L i (base++[(l,k+1)])) F w':=by
 obtain⟨_,pt,_,hp⟩:=ST.of ht
 obtain⟨S,h1,h2⟩:=h.cur hJ ht hc hp
 rw[hL] at h1
 exact(Zts (ST.jok t (zmg ht)).ways h1 hk (ST.big t (zmg ht)).2).mono fun e w' ⟨r1,r2⟩=>⟨r1,h2 _ _ r2⟩
theorem Ztw (ST:Sta sc)(hJ:ZbR sc J)(h:WSt sc J W row L F)(ht:sc.ts[i]? =some t)(hc:sc.pcs[i]? =some pc){base:List RLv}{l:List ByteArray}{k:Nat}(hL:L i=base++[(l,k)])(hk:k<l.length)(x:ByteArray):
  Calls Tryz.prog 161 #[.pointer (some ⟨pc,0,none⟩),.string x] W fun e w'=>∃j,k≤j∧j≤l.length∧(∀q y,k≤q→q<j→l[q]? =some y→ltB y x=true)∧(∀y,l[j]? =some y→ltB y x=false)∧e=.returned (.bool (decide (j<l.length)))∧Mv sc J W row (Zmr L i (base++[(l,j)])) F w':=by
 obtain⟨_,pt,_,hp⟩:=ST.of ht
 obtain⟨S,h1,h2⟩:=h.cur hJ ht hc hp
 rw[hL] at h1
 exact(Ztt x (ST.jok t (zmg ht)).ways h1 (ST.tries W h.env i t pt ht hp) hk (ST.big t (zmg ht)).2).mono fun e w' ⟨j,r1,r2,r3,r4,r5,r6⟩=>⟨j,r1,r2,r3,r4,r5,h2 _ _ r6⟩
theorem Zms (ST:Sta sc)(hJ:ZbR sc J)(h:WSt sc J W row L F)(ht:sc.ts[i]? =some t)(hc:sc.pcs[i]? =some pc){base:List RLv}{l:List ByteArray}(hL:L i=base++[(l,l.length)])(x:ByteArray):
  Calls Tryz.prog 161 #[.pointer (some ⟨pc,0,none⟩),.string x] W fun e w'=>e=.returned (.bool false)∧Mv sc J W row L F w':=by
 obtain⟨_,pt,_,hp⟩:=ST.of ht
 obtain⟨S,h1,h2⟩:=h.cur hJ ht hc hp
 rw[hL] at h1
 refine(Zmo x (ST.jok t (zmg ht)).ways h1 (ST.tries W h.env i t pt ht hp) (ST.big t (zmg ht)).2).mono fun e w' ⟨r1,r2⟩=>⟨r1,?_⟩
 have:=h2 _ _ r2
 rwa [←hL,ZrY] at this
theorem x_up (ST:Sta sc)(hJ:ZbR sc J)(h:WSt sc J W row L F)(ht:sc.ts[i]? =some t)(hc:sc.pcs[i]? =some pc):
  Calls Tryz.prog 139 #[.pointer (some ⟨pc,0,none⟩)] W fun e w'=>(∃b,e=.returned (.bool b))∧Mv sc J W row (Zmr L i (L i).dropLast) F w':=by
 obtain⟨_,pt,_,hp⟩:=ST.of ht
 obtain⟨S,h1,h2⟩:=h.cur hJ ht hc hp
 exact(k_up h1).mono fun e w' ⟨r1,r2⟩=>⟨r1,h2 _ _ r2⟩
theorem Ztx (ST:Sta sc)(hJ:ZbR sc J)(h:WSt sc J W row L F)(ht:sc.ts[i]? =some t)(hc:sc.pcs[i]? =some pc){v:Nat}(hv:v∈t.vars)(hk:Zii (L i)=t.pre row v)(he:Zti (L i)=false):
  Calls Tryz.prog 137 #[.pointer (some ⟨pc,0,none⟩)] W fun e w'=>(∃b,e=.returned (.bool b))∧Mv sc J W row (Zmr L i (L i++[(t.keys row v,0)])) F w':=by
 obtain⟨_,pt,_,hp⟩:=ST.of ht
 obtain⟨S,h1,h2⟩:=h.cur hJ ht hc hp
 have ok:=ST.jok t (zmg ht)
 have hl:(L i).length<t.vars.length:=by
  have h3:=ok.pre_len row hv
  rw[←hk] at h3
  simpa [Zii] using h3
 refine(Ztr h1 (ST.tries W h.env i t pt ht hp) ok.ways (ST.big t (zmg ht)).1 (ST.big t (zmg ht)).2 ok.ne he hl).mono fun e w' ⟨r1,r2⟩=>⟨r1,h2 _ _ ?_⟩
 rw[hk] at r2
 exact r2
theorem Mv.trans {W' W2:World}{J2:(Nat→Prop)→World→Prop}{row2:List ByteArray}{L2:Nat→List RLv}{F':Nat→Prop}(hw:Zah F W W')(hf:∀b,F' b→F b∨W.heap.size≤b)(h:Mv sc J2 W' row2 L2 F' W2):Mv sc J2 W row2 L2 F W2:=by
 obtain⟨F2,h1,h2,h3⟩:=h
 refine⟨F2,h1,ZbO hw h2 hf,fun b hb=>?_⟩
 rcases h3 b hb with h4|h4
 ·exact hf b h4
 ·exact .inr (Nat.le_trans hw.size h4)
end
abbrev Ze7:Type:=List (List ByteArray)→(Nat→Prop)→World→Prop
def Ze8 (sc:Scn)(J:Ze7)(Jx:(Nat→Prop)→World→Prop)(out:List (List ByteArray))(row:List ByteArray)(L:Nat→List RLv)(F:Nat→Prop)(W:World)(e:Ending)(w':World):Prop:=
 (e=.returned (.bool true)∧Mv sc (J out) W row L F w')∨(e=.returned (.bool false)∧Mv sc Jx W row L F w')
def Lvs (sc:Scn)(row:List ByteArray)(v:Nat)(L:Nat→List RLv):Prop:=Znr sc.ts row v∧∀i t,sc.ts[i]? =some t→Zii (L i)=t.pre row v∧Zti (L i)=false
def Zjf (sc:Scn)(J:Ze7)(Jx:(Nat→Prop)→World→Prop)(v k:Nat):Prop:=
 ∀(done:List (List ByteArray)) (row:List ByteArray) (W:World) (L:Nat→List RLv) (F:Nat→Prop),row.length=v→WSt sc (J done) W row L F→Lvs sc row v L→(∀u,u<v→sc.p u (row.take u)=true)→
  Calls Tryz.prog 108 #[.pointer (some ⟨sc.pw,0,none⟩),.int .i64 (v:Nat)] W (Ze8 sc J Jx (done++Zcv sc.ts sc.p k v row) row L F W)
def Zim (sc:Scn)(J:Ze7)(Jx:(Nat→Prop)→World→Prop)(out:List (List ByteArray))(row:List ByteArray)(v:Nat)(L:Nat→List RLv)(F:Nat→Prop)(W:World)(e:Ending)(w':World):Prop:=
 ∃pos,Ze8 sc J Jx out row (lvl sc.ts row v L pos) F W e w'
def Zdb (sc:Scn)(J:Ze7)(done:List (List ByteArray))(row:List ByteArray)(v k:Nat)(L:Nat→List RLv)(F:Nat→Prop)(W:World)(c mm:Nat)(pos:Nat→Nat)(wr:World):Prop:=
 Mv sc (J (done++((ZbQ sc.ts row v).take mm).flatMap fun key=>Zcv sc.ts sc.p k (v+1) (row++[key]))) W row (lvl sc.ts row v L pos) F wr∧ZdL sc.ts row v pos mm c
theorem Lvs.step {sc:Scn}(ST:Sta sc){row:List ByteArray}{L:Nat→List RLv}{v:Nat}(hl:row.length=v)(h:Lvs sc row v L){pos:Nat→Nat}{key:ByteArray}(hall:∀c t',sc.ts[c]? =some t'→v∈t'.vars→(t'.keys row v)[pos c]? =some key):Lvs sc (row++[key]) (v+1) (lvl sc.ts row v L pos):=by
 refine⟨Znr.step (n:=sc.n) (fun t ht=>ST.jok t ht) hl h.1 (fun t' ht' hv=>?_),?_⟩
 ·obtain⟨c,hc⟩:=List.mem_iff_getElem?.1 ht'
  exact zmg (hall c t' hc hv)
 intro i t ht
 have ok:=ST.jok t (zmg ht)
 obtain⟨h1,h2⟩:=h.2 i t ht
 have e:t.pre (row++[key]) v=t.pre row v:=ZgT fun u hu=>Zq8 (by omega)
 have e2:gt (row++[key]) v=key:=by rw[←hl,Zq9]
 rw[ok.pre_succ,e,e2]
 by_cases hv:v∈t.vars
 ·have hk:=hall i t ht hv
  rw[ZeG L pos ht hv,if_pos hv,ZhM,ZgR,h1]
  dsimp only
  rw[hk]
  refine⟨rfl,?_⟩
  have:=(zgs hk).1
  exact decide_eq_false (by omega)
 ·have:i∉atv sc.ts v:=fun hi=>by
   obtain⟨t2,e1,e2⟩:=(ZcO _ _ _).1 hi
   rw[ht] at e1
   cases e1
   exact hv e2
  rw[Zkl L pos this,if_neg hv,List.append_nil]
  exact⟨h1,h2⟩
theorem Zkm {ts:List JT}{row:List ByteArray}{v:Nat}(L:Nat→List RLv)(pos:Nat→Nat){i:Nat}{t:JT}(h:ts[i]? =some t)(hv:v∈t.vars)(j:Nat):Zmr (lvl ts row v L pos) i (L i++[(t.keys row v,j)])=lvl ts row v L (Zlk pos i j):=by
 funext k
 by_cases hk:k=i
 ·subst hk
  rw[Zd3,ZeG L _ h hv,Zbm]
 ·rw[Zdm _ _ hk]
  unfold lvl
  rw[Zch pos j hk]
theorem Zdb.fin {sc:Scn}{J:Ze7}{Jx:(Nat→Prop)→World→Prop}{done:List (List ByteArray)}{row:List ByteArray}{v k:Nat}{L:Nat→List RLv}{F:Nat→Prop}{W wr:World}{c mm:Nat}{pos:Nat→Nat}(h:Zdb sc J done row v k L F W c mm pos wr)
  {c':Nat} {t:JT} (hc:sc.ts[c']? =some t) (hv:v∈t.vars) (he:pos c'=(t.keys row v).length):Zim sc J Jx (done++(ZbQ sc.ts row v).flatMap fun key=>Zcv sc.ts sc.p k (v+1) (row++[key])) row v L F W (.returned (.bool true)) wr:=by
 obtain⟨h1,h2⟩:=h
 rw[h2.fin hc hv he,List.take_length] at h1
 exact⟨pos,.inl ⟨rfl,h1⟩⟩
theorem Zdb.up {sc:Scn}{J:Ze7}(hJ:∀done,ZbR sc (J done)){done:List (List ByteArray)}{row:List ByteArray}{v k:Nat}{L:Nat→List RLv}{F:Nat→Prop}{W wr wr':World}{c mm:Nat}{pos:Nat→Nat}(h:Zdb sc J done row v k L F W c mm pos wr)(e:Ext wr wr'):Zdb sc J done row v k L F W c mm pos wr':=by
 obtain⟨⟨F1,h1,h2,h3⟩,h4⟩:=h
 exact⟨⟨F1,h1.ext (hJ _) e,h2.ext e,h3⟩,h4⟩
theorem Zty (sc:Scn)(J:Ze7)(Jx:(Nat→Prop)→World→Prop)(ST:Sta sc)(hJ:∀done,ZbR sc (J done))(hJx:ZbR sc Jx)(v k:Nat)(hk:v+(k+1)=sc.n)(FR:Zjf sc J Jx (v+1) k)
  (done:List (List ByteArray)) (row:List ByteArray) (w:World) (L:Nat→List RLv) (F:Nat→Prop) (hrow:row.length=v) (h:WSt sc (J done) w row (lvl sc.ts row v L fun _=>0) F) (hL:Lvs sc row v L)
  (gl cl m:Nat) (hm:(atv sc.ts v).length=m) (hgl:∀(j c:Nat),(atv sc.ts v)[j]? =some c→∃pc,sc.pcs[c]? =some pc∧w.cell? ⟨gl,j,none⟩=some (.pointer (some ⟨pc,0,none⟩))) (hglF:¬F gl) (hpre:∀u,u≤v→sc.p u (row.take u)=true):
  Calls Tryz.prog 138 #[.pointer (some ⟨sc.pw,0,none⟩),.int .i64 (v:Nat),.slice (some ⟨gl,0,none⟩) m cl] w (Zim sc J Jx (done++(ZbQ sc.ts row v).flatMap fun key=>Zcv sc.ts sc.p k (v+1) (row++[key])) row v L F w):=by
 have HST:=zh ST
 have HJ:=zh hJ
 have HJX:=zh hJx
 have HFR:=zh FR
 have HPRE:=zh hpre
 have HL:=zh hL
 have HM:=zh hm
 have HGL:=zh hgl
 have HGF:=zh hglF
 have HW:=zh h
 have HROW:=zh hrow
 have HK:=zh hk
 obtain⟨t0,ht0,hv0⟩:=ST.all v (by omega)
 obtain⟨i0,hi0⟩:=List.mem_iff_getElem?.1 ht0
 have ha0:=(ZcO sc.ts v i0).2 ⟨t0,hi0,hv0⟩
 have hmpos:0<m:=by
  rw[←hm]
  exact List.length_pos_of_mem ha0
 have hmle:m≤1000000000000:=by
  rw[←hm]
  have:=Zik sc.ts v
  have:=ST.nn.2
  omega
 clear hpre hJ hJx FR hL hgl hglF h hk ht0 hi0 hv0 ha0 hm hrow
 have HSTART:Hid (∃(i c mm:Nat) (pos:Nat→Nat),Value.int .i64 0=.int .i64 (i:Nat)∧(atv sc.ts v)[i]? =some c∧Zdb sc J done row v k L F w c mm pos w∧∀t y,sc.ts[c]? =some t→(t.keys row v)[pos c]? =some y→Zje sc.ts row v y≤(sc.ts.flatMap fun t=>t.keys row v).length):=by
  obtain⟨c0,hc0⟩:∃c,(atv sc.ts v)[0]? =some c:=⟨_,zge (by rw[HM.out];exact hmpos)⟩
  refine⟨0,c0,0,fun _=>0,rfl,hc0,⟨?_,ZdL.start (ST.all v (by have:=HK.out;omega)) _⟩,fun t y _ _=>List.length_filter_le _ _⟩
  rw[List.take_zero,List.flatMap_nil,List.append_nil]
  exact HW.out.mv
 clear ST
 go_enter Tryz.func138,Tryz.ntmps138
 go_wp2
 go_step3
 go_wp2
 go_step3
 go_wp2
 go_loopg [7] ((sc.ts.flatMap fun t=>t.keys row v).length) (fun g iv wr=>∃(i c mm:Nat) (pos:Nat→Nat),iv=.int .i64 (i:Nat)∧(atv sc.ts v)[i]? =some c∧Zdb sc J done row v k L F w c mm pos wr∧∀t y,sc.ts[c]? =some t→(t.keys row v)[pos c]? =some y→Zje sc.ts row v y≤g)
 case atStart=>exact HSTART.out
 case round=>
  clear HSTART
  obtain⟨i,c,mm,pos,rfl,hc,⟨⟨F1,hS,hB,hN⟩,hI⟩,hg⟩:=hrel
  obtain⟨t,ht,hvt⟩:=(ZcO sc.ts v c).1 (zmg hc)
  obtain⟨pc,hpc,hcell0⟩:=HGL.out i c hc
  have hcell:=hB.cell HGF.out hcell0
  have him:i<m:=by rw[←HM.out];exact(zgs hc).1
  have AE:=zh (ZrZ HST.out (HJ.out _) hS ht hpc (ZeG L pos ht hvt))
  have HI:=zh hI
  have HS:=zh hS
  have HC:=zh hc
  have HG:=zh hg
  have HT:=zh ht
  have HPC:=zh hpc
  have HB:=zh hB
  have HN:=zh hN
  clear hS hB hN hI hc hg ht hpc hcell0
  obtain⟨b,hb⟩:∃b,decide (pos c=(t.keys row v).length)=b:=⟨_,rfl⟩
  rw[hb] at AE
  have HBB:=zh hb
  clear hb
  cases b with
  |true=>
   go_wp2_with (go_at_call 154;(with_reducible refine AE.out.mono ?_);rintro e w1 ⟨rfl,q1,hw1⟩;obtain rfl:=hw1.symm)
   rw[Exit.noGoto_ret]
   go_returns
   exact Zdb.fin (Zdb.up HJ.out ⟨Mv.trans HB.out HN.out HS.out.mv,HI.out⟩ (Zae zbr _)) HT.out hvt (of_decide_eq_true HBB.out)
  |false=>
   have hlt:pos c<(t.keys row v).length:=by
    have h1:=HI.out.le c t HT.out hvt
    have h2:=of_decide_eq_false HBB.out
    omega
   obtain⟨key,hkey⟩:∃key,(t.keys row v)[pos c]? =some key:=⟨_,zge hlt⟩
   have KY:Hid (∀q,Calls Tryz.prog 160 #[.pointer (some ⟨pc,0,none⟩)] (wr.drewN q) fun e w'=>e=.returned (.string key)∧∃m,w'=(wr.drewN q).drewN m):=fun q=>Ztu HST.out (HJ.out _) (HS.out.ext (HJ.out _) (Zae zbr q)) HT.out HPC.out (ZeG L pos HT.out hvt) hkey
   have HKEY:=zh hkey
   clear hkey hlt
   go_wp2_with (first
    |(go_at_call 154;(with_reducible refine AE.out.mono ?_);rintro e w1 ⟨rfl,q1,hw1⟩;obtain rfl:=hw1.symm)
    |(go_at_call 160;(with_reducible refine(KY.out _).mono ?_);rintro e w2 ⟨rfl,q2,hw2⟩;obtain rfl:=hw2.symm))
   have HINNER:Hid (∀W,Ext wr W→Zdb sc J done row v k L F w c mm pos W∧(t.keys row v)[pos c]? =some key∧∀q',q'<0→∀c' t',(atv sc.ts v)[(i+q')%m]? =some c'→sc.ts[c']? =some t'→(t'.keys row v)[pos c']? =some key):=
    fun W hW=>⟨⟨Mv.trans HB.out HN.out (HS.out.mv_ext (HJ.out _) hW),HI.out⟩,HKEY.out,fun q' h=>absurd h (by omega)⟩
   refine Zba (fun W2 hW2=>?_)
   have hE2:Ext wr W2:=by rw[hW2];exact Zae zbr _
   have HINNER:=zh (HINNER.out W2 hE2)
   have HKEY0:=zh HKEY.out
   clear hW2 hE2 AE KY HS HB HN HI HBB hcell HKEY
   go_loopw [7,24] (fun iv nv w2=>iv=.int .i64 (i:Nat)∧∃(q:Nat) (pos2:Nat→Nat),nv=.int .i64 (q:Nat)∧q≤m∧Zdb sc J done row v k L F w c mm pos2 w2∧(t.keys row v)[pos2 c]? =some key∧∀q',q'<q→∀c' t',(atv sc.ts v)[(i+q')%m]? =some c'→sc.ts[c']? =some t'→(t'.keys row v)[pos2 c']? =some key) (fun _ nv _=>m-(intOf nv).toNat)
   case atStart=>exact⟨rfl,0,pos,rfl,Nat.zero_le _,HINNER.out⟩
   case round=>
    clear HINNER
    obtain⟨rfl,q,pos2,rfl,hqm,⟨⟨F2,hS,hB,hN⟩,hI⟩,hkey,hpast⟩:=hrel
    have HKEY:=zh hkey
    have HP:=zh hpast
    have HI:=zh hI
    have HS:=zh hS
    have HB:=zh hB
    have HN:=zh hN
    clear hS hN hI hkey hpast
    by_cases hq:q<m
    ·obtain⟨j2,hj2⟩:∃j2,(i+q)%m=j2:=⟨_,rfl⟩
     have hj2m:j2<m:=by rw[←hj2];exact Nat.mod_lt _ hmpos
     have hsum:IntKind.i64.wrap ((i:Int)+(q:Int))=(i:Int)+(q:Int):=by rw[IntKind.wrap_i64];omega
     have hrem:((i:Int)+(q:Int))%(m:Int)=(j2:Int):=by rw[←hj2,Int.natCast_emod,Int.natCast_add]
     have HJ2:=zh hj2
     have HREM:=zh hrem
     obtain⟨c2,hc2⟩:∃c2,(atv sc.ts v)[j2]? =some c2:=⟨_,zge (by rw[HM.out];exact hj2m)⟩
     obtain⟨t2,ht2,hvt2⟩:=(ZcO sc.ts v c2).1 (zmg hc2)
     obtain⟨pc2,hpc2,hcell0⟩:=HGL.out _ c2 hc2
     have hcell:=hB.cell HGF.out hcell0
     have HC2:=zh hc2
     have HT2:=zh ht2
     have HPC2:=zh hpc2
     have hlt2:pos2 c2≤(t2.keys row v).length:=HI.out.le c2 t2 ht2 hvt2
     clear hB hc2 ht2 hpc2 hcell0 hj2
     by_cases hend:pos2 c2=(t2.keys row v).length
     ·have SK:=zh (Zms HST.out (HJ.out _) HS.out HT2.out HPC2.out (by rw[ZeG L pos2 HT2.out hvt2,hend]) key)
      have HEND:=zh hend
      clear hlt2 hend
      go_wp2_with (go_at_call 161;(with_reducible refine SK.out.mono ?_);rintro e w3 ⟨rfl,hM3⟩)
      rw[Exit.noGoto_ret]
      go_returns
      exact Zdb.fin ⟨Mv.trans HB.out HN.out hM3,HI.out⟩ HT2.out hvt2 HEND.out
     ·have SK:=zh (Ztw HST.out (HJ.out _) HS.out HT2.out HPC2.out (ZeG L pos2 HT2.out hvt2) (by omega) key)
      clear hlt2 hend
      go_wp2_with fail
      refine SK.out.mono ?_
      rintro e w3 ⟨j,j1,j2',j3,j4,rfl,hM3⟩
      rw[Zkm L pos2 HT2.out hvt2] at hM3
      have HI3:=zh (HI.out.seek HST.out.jok HT.out hvt HKEY.out HT2.out hvt2 j1 j2' j3).1
      have HL3:Hid (Zdb sc J done row v k L F w c mm (Zlk pos2 c2 j) w3):=⟨Mv.trans HB.out HN.out hM3,HI3.out⟩
      have HCI:Hid ((t2.keys row v)[pos2 c2]? =some key→j=pos2 c2):=fun he=>by
       rcases Nat.eq_or_lt_of_le j1 with e|e
       ·exact e.symm
       ·exact absurd (j3 _ key (Nat.le_refl _) e he) (Zbb key)
      obtain⟨b3,hb3⟩:∃b,decide (j<(t2.keys row v).length)=b:=⟨_,rfl⟩
      rw[hb3]
      have HB3:=zh hb3
      have HJ4:=zh j4
      have HJ3:=zh j2'
      have HM3:=zh hM3
      clear hb3 hM3 j1 j2' j3 j4
      cases b3 with
      |false=>
       go_wp2
       rw[Exit.noGoto_ret]
       go_returns
       exact HL3.out.fin HT2.out hvt2 (by
        rw[Zbm]
        have:=of_decide_eq_false HB3.out
        have:=HJ3.out
        omega)
      |true=>
       obtain⟨y2,hy2⟩:∃y2,(t2.keys row v)[j]? =some y2:=⟨_,zge (of_decide_eq_true HB3.out)⟩
       have HY2:=zh hy2
       clear hy2
       obtain⟨F3,hS3,hB3,hN3⟩:=HM3.out
       have HS3:=zh hS3
       have KY2:=zh (Ztu HST.out (HJ.out _) hS3 HT2.out HPC2.out (ZeG L (Zlk pos2 c2 j) HT2.out hvt2) (by rw[Zbm];exact HY2.out))
       clear hS3 hB3 hN3
       have HPAST:Hid (∀q',q'<q→∀c' t',(atv sc.ts v)[(i+q')%m]? =some c'→sc.ts[c']? =some t'→(t'.keys row v)[Zlk pos2 c2 j c']? =some key):=fun q' hq' c' t' h1 h2=>by
        by_cases e:c'=c2
        ·subst e
         have e2:=h2
         rw[HT2.out] at e2
         cases e2
         have h3:=HP.out q' hq' _ _ h1 h2
         rw[Zbm,HCI.out h3]
         exact h3
        ·rw[Zch pos2 _ e]
         exact HP.out q' hq' c' t' h1 h2
       have HKC:Hid ((t.keys row v)[Zlk pos2 c2 j c]? =some key):=by
        show _=_
        by_cases e:c=c2
        ·subst e
         have e2:=HT2.out
         rw[HT.out] at e2
         cases e2
         rw[Zbm,HCI.out HKEY.out]
         exact HKEY.out
        ·rw[Zch pos2 _ e]
         exact HKEY.out
       have hge:ltB y2 key=false:=HJ4.out y2 HY2.out
       have HGE:=zh hge
       clear hge
       by_cases hyk:y2=key
       ·have hbe:(y2.toList==key.toList)=true:=by rw[Zbr,decide_eq_true hyk]
        have HYK:=zh hyk
        clear hyk
        go_wp2_with (go_at_call 160;(with_reducible refine KY2.out.mono ?_);rintro e w4 ⟨rfl,q4,hw4⟩;obtain rfl:=hw4.symm)
        go_roundw
        case rel=>
         refine⟨rfl,q+1,Zlk pos2 c2 j,by simp,by omega,HL3.out.up HJ.out (Zae zbr _),HKC.out,fun q' hq' c' t' h1 h2=>?_⟩
         rcases Nat.lt_or_ge q' q with h3|h3
         ·exact HPAST.out q' h3 c' t' h1 h2
         ·obtain rfl:q'=q:=by omega
          rw[HJ2.out,HC2.out] at h1
          cases h1
          rw[HT2.out] at h2
          cases h2
          rw[Zbm,HY2.out,HYK.out]
        case measure=>simp[intOf];omega
       ·have hbe:(y2.toList==key.toList)=false:=by rw[Zbr,decide_eq_false hyk]
        have HLT:Hid (ltB key y2=true):=by
         rcases Zfl key y2 with h|h|h
         ·exact h
         ·exact absurd h.symm hyk
         ·rw[HGE.out] at h
          cases h
        clear hyk
        have HRK:Hid (Zje sc.ts row v y2<Zje sc.ts row v key):=Zns HT.out HKEY.out HLT.out
        go_wp2_with (go_at_call 160;(with_reducible refine KY2.out.mono ?_);rintro e w4 ⟨rfl,q4,hw4⟩;obtain rfl:=hw4.symm)
        go_roundg (gk-1)
        case measure=>
         have:=HRK.out
         have:=HG.out t key HT.out HKEY0.out
         omega
        case rel=>
         refine⟨j2,c2,mm,Zlk pos2 c2 j,by rw[HREM.out],HC2.out,⟨(HL3.out.up HJ.out (Zae zbr _)).1,?_⟩,fun t' y h1 h2=>?_⟩
         ·exact HI3.out.turn HT.out HKC.out HT2.out (by rw[Zbm];exact HY2.out) HLT.out
         ·rw[HT2.out] at h1
          cases h1
          rw[Zbm,HY2.out] at h2
          cases h2
          have:=HRK.out
          have:=HG.out t key HT.out HKEY0.out
          omega
    ·obtain rfl:q=m:=by omega
     have HALL:Hid (∀c' t',sc.ts[c']? =some t'→v∈t'.vars→(t'.keys row v)[pos2 c']? =some key):=fun c' t' h1 h2=>by
      obtain⟨jj,hjj⟩:=List.mem_iff_getElem?.1 ((ZcO sc.ts v c').2 ⟨t',h1,h2⟩)
      have hjm:jj<q:=by rw[←HM.out];exact(zgs hjj).1
      by_cases hij:i≤jj
      ·exact HP.out (jj-i) (by omega) c' t' (by rw[show i+(jj-i)=jj by omega,Nat.mod_eq_of_lt hjm];exact hjj) h1
      ·exact HP.out (jj+q-i) (by omega) c' t' (by rw[show i+(jj+q-i)=jj+q by omega,Nat.add_mod_right,Nat.mod_eq_of_lt hjm];exact hjj) h1
     have HHIT:=zh (HI.out.hit HST.out.jok HT.out hvt HALL.out)
     obtain⟨ct,hct⟩:∃x,(ZbQ sc.ts row v).take mm=x:=⟨_,rfl⟩
     have hvn:v<sc.n:=by have:=HK.out;omega
     obtain⟨s0,s2,s3⟩:=HST.out.walk wr HS.out.env
     obtain⟨hput,hputB,y0,hy0,hf0⟩:=HS.out.put (HJ.out _) (by rw[HROW.out];exact hvn) key
     rw[HROW.out] at hput hputB hy0 hf0
     have HPUT:=zh hput
     have HPUTB:=zh hputB
     have FRM:Hid (Calls Tryz.prog 108 #[.pointer (some ⟨sc.pw,0,none⟩),.int .i64 ((v:Int)+1)] (wr.setCell ⟨sc.gr,v,none⟩ (.string key)) (Ze8 sc J Jx (done++((ZbQ sc.ts row v).take (mm+1)).flatMap fun key=>Zcv sc.ts sc.p k (v+1) (row++[key])) (row++[key]) (lvl sc.ts row v L pos2) F2 (wr.setCell ⟨sc.gr,v,none⟩ (.string key)))):=by
      have h:=HFR.out _ (row++[key]) _ _ _ (by rw[List.length_append,HROW.out];rfl) hput (HL.out.step HST.out HROW.out HALL.out) (fun u hu=>by rw[List.take_append_of_le_length (by rw[HROW.out];omega)];exact HPRE.out u (by omega))
      rw[List.append_assoc] at h
      rw[List.take_add_one,HHIT.out,List.flatMap_append]
      exact zh (by simpa using h)
     have hnn:=HST.out.nn.1
     have hv1:IntKind.i64.wrap ((v:Int)+1)=((v+1:Nat):Int):=by rw[IntKind.wrap_i64];omega
     have hwv:(0:Int)≤(v:Int):=by omega
     have HEXT:=zh hputB
     have hlen:pos2 c<(t.keys row v).length:=(zgs HKEY.out).1
     clear hput hputB hB hct ct
     go_wp2_with fail
     refine FRM.out.mono ?_
     rintro e w3 (⟨rfl,hM3⟩|⟨rfl,hM3⟩)
     ·obtain⟨F3,hS3,hB3,hN3⟩:=Mv.trans HPUTB.out (fun b hb=>.inl hb) hM3.cut
      have NX:=zh (Ztv HST.out (HJ.out _) hS3 HT.out HPC.out (ZeG L pos2 HT.out hvt) hlen)
      have HB3:=zh hB3
      have HN3:=zh hN3
      have hcell3:w3.cell? ⟨gl,i,none⟩=some (.pointer (some ⟨pc,0,none⟩)):=by
       obtain⟨pc',h1,h2⟩:=HGL.out i c HC.out
       rw[HPC.out] at h1
       cases h1
       exact(ZbO HB.out hB3 HN.out).cell HGF.out h2
      clear hM3 hS3 hB3 hN3
      have HI4:=zh (HI.out.next HST.out.jok HT.out hvt HKEY.out HHIT.out)
      have HLE:=zh hlen
      clear hlen
      obtain⟨b3,hb3⟩:∃b,decide (pos2 c+1<(t.keys row v).length)=b:=⟨_,rfl⟩
      rw[hb3] at NX
      have HB4:=zh hb3
      clear hb3
      cases b3 with
      |false=>
       go_wp2_with (go_at_call 162;(with_reducible refine NX.out.mono ?_);rintro e w4 ⟨rfl,hM4⟩)
       rw[Exit.noGoto_ret]
       go_returns
       rw[Zkm L pos2 HT.out hvt] at hM4
       exact Zdb.fin ⟨Mv.trans HB.out HN.out (Mv.trans HB3.out HN3.out hM4),HI4.out⟩ HT.out hvt (by
        rw[Zbm]
        have:=of_decide_eq_false HB4.out
        have:=HLE.out
        omega)
      |true=>
       go_wp2_with (go_at_call 162;(with_reducible refine NX.out.mono ?_);rintro e w4 ⟨rfl,hM4⟩)
       obtain⟨y5,hy5⟩:∃y,(t.keys row v)[pos2 c+1]? =some y:=⟨_,zge (of_decide_eq_true HB4.out)⟩
       have hrk:Zje sc.ts row v y5<Zje sc.ts row v key:=Zns HT.out HKEY.out (Zd4 ((HST.out.jok t (zmg HT.out)).keys_rising row hvt) (Nat.lt_succ_self _) HKEY.out hy5)
       have hgk:=HG.out t key HT.out HKEY0.out
       rw[Zkm L pos2 HT.out hvt] at hM4
       go_roundg (gk-1)
       case measure=>omega
       case rel=>
        refine⟨i,c,mm+1,Zlk pos2 c (pos2 c+1),rfl,HC.out,⟨Mv.trans HB.out HN.out (Mv.trans HB3.out HN3.out hM4),HI4.out⟩,fun t' y h1 h2=>?_⟩
        rw[HT.out] at h1
        cases h1
        rw[Zbm,hy5] at h2
        cases h2
        omega
     ·have HM3:=zh (Mv.trans HB.out HN.out (Mv.trans HPUTB.out (fun b hb=>.inl hb) hM3.cut))
      clear hM3
      go_wp2
      rw[Exit.noGoto_ret]
      go_returns
      exact⟨pos2,.inr ⟨rfl,HM3.out⟩⟩
theorem Zll:(Tryz.prog.info? 176).map (fun i=>(i.zero,i.size,i.bytes))=some (some (.pointer none),1,8):=by kernel_rfl
abbrev Zi2 (b:Nat):Value:=.pointer (some ⟨b,0,none⟩)
structure Stb (sc:Scn):Prop where
 gc:0<sc.n→∃gc cc,∀W,Zah sc.T sc.w2 W→W.cell? ⟨sc.pw,1,none⟩=some (.slice (some ⟨gc,0,none⟩) sc.ts.length cc)∧∀i pc,sc.pcs[i]? =some pc→W.cell? ⟨gc,i,none⟩=some (.pointer (some ⟨pc,0,none⟩))
 names:∃an cn,∀W,Zah sc.T sc.w2 W→W.cell? ⟨sc.pm,0,none⟩=some (.slice an sc.n cn)
 at_:∃(ga ca:Nat) (f g:Nat→Nat),∀W,Zah sc.T sc.w2 W→W.cell? ⟨sc.pm,2,none⟩=some (.slice (some ⟨ga,0,none⟩) sc.n ca)∧∀v,v<sc.n→W.cell? ⟨ga,v,none⟩=some (.slice (some ⟨f v,0,none⟩) (atv sc.ts v).length (g v))∧∀(j c:Nat),(atv sc.ts v)[j]? =some c→W.cell? ⟨f v,j,none⟩=some (.int .i64 (c:Nat))
 pass:∀(v:Nat) (W:World) (x:List ByteArray),v≤sc.n→Zah sc.T sc.w2 W→x.length=sc.n→Zmq sc W x→Calls Tryz.prog 136 #[.pointer (some ⟨sc.pw,0,none⟩),.int .i64 (v:Nat)] W fun e w'=>e=.returned (.bool (sc.p v (x.take v)))∧Ext W w'
section
variable {sc:Scn} {J:(Nat→Prop)→World→Prop} {W:World} {row:List ByteArray} {L:Nat→List RLv} {F:Nat→Prop}
theorem WSt.rowx (h:WSt sc J W row L F):∃x,x.length=sc.n∧x.take row.length=row∧Zmq sc W x:=by
 obtain⟨x,S,C,⟨h1,h2,h3⟩,_⟩:=h.ex
 exact⟨x,h1,h2,h3⟩
theorem WSt.but (hJ:ZbR sc J)(h:WSt sc J W row L F){W':World}{T:Nat→Prop}(e:Zah T W W')(hT:∀b,T b→¬F b∧sc.far b):WSt sc J W' row L F:=by
 obtain⟨x,S,C,h1,h2,h3,h4,h5,h6,h7⟩:=h.ex
 refine⟨ZbO h.env e (fun b hb=>(hT b hb).2),h.far,fun b hb=>Nat.lt_of_lt_of_le (h.low b hb) e.size,x,S,C,⟨h1.1,h1.2.1,h1.2.2.but e (fun hb=>(hT _ hb).1 ((h7 _).2 (.inl rfl)))⟩,fun i t pc pt a1 a2 a3=>(h2 i t pc pt a1 a2 a3).buts e (fun b hb hb2=>(hT b hb2).1 ((h7 b).2 (.inr (.inr ⟨i,hb⟩)))),h3,h4,h5,hJ _ _ _ _ h6 e (fun b hb=>⟨fun hC=>(hT b hb).1 ((h7 b).2 (.inr (.inl hC))),(hT b hb).2⟩),h7⟩
end
def opn (ts:List JT)(row:List ByteArray)(v:Nat)(L:Nat→List RLv)(q i:Nat):List RLv:=if i∈(atv ts v).take q then lvl ts row v L (fun _=>0) i else L i
def cls (ts:List JT)(v:Nat)(L L':Nat→List RLv)(q i:Nat):List RLv:=if i∈(atv ts v).take q then L i else L' i
theorem Zjg (ts:List JT)(v:Nat):(atv ts v).Nodup:=List.nodup_range.sublist List.filter_sublist
theorem Zlm {l:List Nat}(hn:l.Nodup){q c:Nat}(hc:l[q]? =some c):c∉l.take q:=by
 intro hm
 obtain⟨j,hj⟩:=List.mem_iff_getElem?.1 hm
 rw[List.getElem?_take] at hj
 split at hj
 ·rename_i hlt
  obtain⟨h1,e1⟩:=zgs hj
  obtain⟨h2,e2⟩:=zgs hc
  have:=(List.getElem_inj (h₀:=h1) (h₁:=h2) hn).1 (e1.trans e2.symm)
  omega
 ·cases hj
theorem ZpJ (ts:List JT)(row:List ByteArray)(v:Nat)(L:Nat→List RLv):opn ts row v L 0=L:=by
 funext i
 simp[opn]
theorem ZpK {ts:List JT}(row:List ByteArray){v:Nat}(L:Nat→List RLv){q c:Nat}{t:JT}(hc:(atv ts v)[q]? =some c)(ht:ts[c]? =some t)(hv:v∈t.vars):opn ts row v L q c=L c∧Zmr (opn ts row v L q) c (L c++[(t.keys row v,0)])=opn ts row v L (q+1):=by
 have hnt:=Zlm (Zjg ts v) hc
 refine⟨by unfold opn;rw[if_neg hnt],?_⟩
 funext i
 by_cases hi:i=c
 ·subst hi
  rw[Zd3]
  unfold opn
  rw[List.take_add_one,hc,if_pos (by simp),ZeG L _ ht hv]
 ·rw[Zdm _ _ hi]
  unfold opn
  rw[List.take_add_one,hc]
  have:i∈(atv ts v).take q++(some c).toList↔i∈(atv ts v).take q:=by simp[hi]
  by_cases hm:i∈(atv ts v).take q
  ·rw[if_pos hm,if_pos (this.2 hm)]
  ·rw[if_neg hm,if_neg (fun h=>hm (this.1 h))]
theorem Zr0 (ts:List JT)(row:List ByteArray)(v:Nat)(L:Nat→List RLv):opn ts row v L (atv ts v).length=lvl ts row v L fun _=>0:=by
 funext i
 unfold opn
 rw[List.take_length]
 by_cases hm:i∈atv ts v
 ·rw[if_pos hm]
 ·rw[if_neg hm,Zkl L _ hm]
theorem ZpL (ts:List JT)(v:Nat)(L L':Nat→List RLv):cls ts v L L' 0=L':=by
 funext i
 simp[cls]
theorem ZpM {ts:List JT}(row:List ByteArray){v:Nat}(L:Nat→List RLv)(pos:Nat→Nat){q c:Nat}(hc:(atv ts v)[q]? =some c):Zmr (cls ts v L (lvl ts row v L pos) q) c (cls ts v L (lvl ts row v L pos) q c).dropLast=cls ts v L (lvl ts row v L pos) (q+1):=by
 have hnt:=Zlm (Zjg ts v) hc
 obtain⟨t,ht,hv⟩:=(ZcO ts v c).1 (zmg hc)
 funext i
 by_cases hi:i=c
 ·subst hi
  rw[Zd3]
  unfold cls
  rw[if_neg hnt,List.take_add_one,hc,if_pos (by simp),ZeG L _ ht hv,List.dropLast_concat]
 ·rw[Zdm _ _ hi]
  unfold cls
  rw[List.take_add_one,hc]
  have:i∈(atv ts v).take q++(some c).toList↔i∈(atv ts v).take q:=by simp[hi]
  by_cases hm:i∈(atv ts v).take q
  ·rw[if_pos hm,if_pos (this.2 hm)]
  ·rw[if_neg hm,if_neg (fun h=>hm (this.1 h))]
theorem Zr1 (ts:List JT)(row:List ByteArray)(v:Nat)(L:Nat→List RLv)(pos:Nat→Nat):cls ts v L (lvl ts row v L pos) (atv ts v).length=L:=by
 funext i
 unfold cls
 rw[List.take_length]
 by_cases hm:i∈atv ts v
 ·rw[if_pos hm]
 ·rw[if_neg hm,Zkl L _ hm]
def Zra (sc:Scn)(J:(Nat→Prop)→World→Prop)(W:World)(row:List ByteArray)(v:Nat)(L:Nat→List RLv)(F:Nat→Prop)(ps:List Nat)(q:Nat)(l:Value)(wr:World):Prop:=
 ∃F1,WSt sc J wr row (opn sc.ts row v L q) F1∧Zah F W wr∧(∀b,F1 b→F b∨W.heap.size≤b)∧wr.ownsRow W.heap.size 176 1 l q ((ps.take q).map Zi2)∧∀b,l.ownBlock=some b→¬F1 b
theorem Zkn (sc:Scn)(J:Ze7)(Jx:(Nat→Prop)→World→Prop)(ST:Sta sc)(SB:Stb sc)(hJ:∀done,ZbR sc (J done))(hJx:ZbR sc Jx)(v k:Nat)(hk:v+(k+1)=sc.n)(FR:Zjf sc J Jx (v+1) k):Zjf sc J Jx v (k+1):=by
 intro done row w L F hrow h hL hpre
 have HPRE:=zh hpre
 clear hpre
 obtain⟨x,x1,x2,x3⟩:=h.rowx
 have PS:=SB.pass v w x (by omega) h.env x1 x3
 rw[hrow] at x2
 rw[x2] at PS
 have HPS:=zh PS
 have HST:=zh ST
 have HSB:=zh SB
 have HJ:=zh hJ
 have HJX:=zh hJx
 have HFR:=zh FR
 have HL:=zh hL
 have HW:=zh h
 have HROW:=zh hrow
 have HK:=zh hk
 obtain⟨b,hb⟩:∃b,sc.p v row=b:=⟨_,rfl⟩
 rw[hb] at HPS
 have HB:=zh hb
 clear PS ST SB hJ hJx FR hL h hrow hk x1 x2 x3 hb
 cases b with
 |false=>
  go_enter Tryz.func108,Tryz.ntmps108
  go_wp2_with (go_at_call 136;(with_reducible refine HPS.out.mono ?_);rintro e w1 ⟨rfl,e1⟩)
  go_returns
  refine .inl ⟨rfl,?_⟩
  rw[Zcv,if_neg (by rw[HB.out];simp),List.append_nil]
  exact HW.out.mv_ext (HJ.out _) e1
 |true=>
  go_enter Tryz.func108,Tryz.ntmps108
  go_wp2_with fail
  refine HPS.out.mono ?_
  rintro e w1 ⟨rfl,e1⟩
  have hS1:=HW.out.ext (HJ.out _) e1
  have HS1:=zh hS1
  have HE1:=zh e1
  obtain⟨s0,s2,s3⟩:=HST.out.walk w1 hS1.env
  obtain⟨gc,cc,hgc⟩:=HSB.out.gc (by have:=HK.out;omega)
  obtain⟨an,cn,hnm⟩:=HSB.out.names
  obtain⟨ga,ca,fa,fc,hat⟩:=HSB.out.at_
  have hn0:=hnm w1 hS1.env
  obtain⟨hp2,hat1⟩:=hat w1 hS1.env
  obtain⟨hga,_⟩:=hat1 v (by have:=HK.out;omega)
  have HAT:=zh hat
  have HGC:=zh hgc
  have hvn:((v:Int)==(sc.n:Int))=false:=by
   have:=HK.out
   rw[beq_eq_false_iff_ne]
   omega
  have hvn2:v<sc.n:=by have:=HK.out;omega
  obtain⟨m,hm⟩:∃m,(atv sc.ts v).length=m:=⟨_,rfl⟩
  rw[hm] at hga
  have hmle:m≤1000000000000:=by
   have:=Zik sc.ts v
   have:=HST.out.nn.2
   omega
  have hnts:sc.ts.length≤1000000000000:=HST.out.nn.2
  have HM:=zh hm
  obtain⟨ps,hps⟩:∃ps,(atv sc.ts v).map (fun c=>sc.pcs[c]?.getD 0)=ps:=⟨_,rfl⟩
  have HPSL:=zh hps
  have HSTART:Hid (Zra sc (J done) w1 row v L F ps 0 (.slice none 0 0) w1):=⟨F,by rw[ZpJ];exact hS1,Zah.refl _ _,fun _ h=>.inl h,World.ownsRow_nil _ _ _ _,fun b e=>by cases e⟩
  obtain⟨i0,hi,hz0,hz1,hz2⟩:=info_parts Zll
  clear hS1 hgc hnm hat hat1 e1 hm hps
  go_wp2
  go_loopw [5,47] (fun l iv wr=>∃q:Nat,iv=.int .i64 (q:Nat)∧q≤m∧Zra sc (J done) w1 row v L F ps q l wr) (fun _ iv _=>m-(intOf iv).toNat)
  case atStart=>exact⟨0,rfl,Nat.zero_le _,HSTART.out⟩
  case round=>
   clear HSTART s0 s2 s3 hn0 hp2 hga
   obtain⟨q,rfl,hqm,F1,hS,hB,hN,hown,hob⟩:=hrel
   have HS:=zh hS
   have HBB:=zh hB
   have HN:=zh hN
   have HO:=zh hown
   have HOB:=zh hob
   by_cases hq:q<m
   ·obtain⟨c,hc⟩:∃c,(atv sc.ts v)[q]? =some c:=⟨_,zge (by rw[HM.out];exact hq)⟩
    obtain⟨t,ht,hvt⟩:=(ZcO sc.ts v c).1 (zmg hc)
    obtain⟨pc,pt,hpc,hpt⟩:=HST.out.of ht
    obtain⟨_,hat1⟩:=HAT.out wr hS.env
    have hint:=(hat1 v hvn2).2 q c hc
    obtain⟨g1,g2⟩:=HGC.out wr hS.env
    have hcell:=g2 c pc hpc
    have hct:c<sc.ts.length:=(zgs ht).1
    obtain⟨o1,o2⟩:=ZpK row L hc ht hvt
    obtain⟨k1,k2⟩:=HL.out.2 c t ht
    have OP:=zh (Ztx HST.out (HJ.out _) hS ht hpc hvt (by rw[o1];exact k1) (by rw[o1];exact k2))
    have HC:=zh hc
    have HT:=zh ht
    have HPC:=zh hpc
    have HO2:=zh o2
    have HO1:=zh o1
    clear hS hB hN hown hob hc ht hpc hpt hat1 g2 o1 o2 k1 k2
    go_wp2_with fail
    refine OP.out.mono ?_
    rintro e w4 ⟨⟨b4,rfl⟩,hM4⟩
    rw[HO1.out,HO2.out] at hM4
    obtain⟨F4,hS4,hB4,hN4⟩:=hM4
    obtain⟨h1,h2⟩:=HGC.out w4 hS4.env
    have hcell4:=h2 c pc HPC.out
    have OW4:Hid (w4.ownsRow w1.heap.size 176 1 u5 q ((ps.take q).map Zi2)):=hB4.own HO.out HOB.out
    have hz4:w1.heap.size≤(w4.alloc (.cells #[.pointer (some ⟨pc,0,none⟩)] 176)).heap.size:=Za3 (Nat.le_trans HBB.out.size hB4.size)
    have HS4:=zh hS4
    have HB4:=zh hB4
    have HN4:=zh hN4
    have HZ4:=zh hz4
    clear hS4 hB4 hN4 h2 hcell hint g1 hz4
    go_wp2_with (at_builtin;go_loud (refine wpList_append_lies _ rfl _ _ 172 rfl w1.heap.size 176 i0 (.pointer none) 1 8 Tryz.underlying172 hi hz0 hz1 hz2 rfl (by decide) _ q ((ps.take q).map Zi2) rfl (OW4.out.alloc _) ⟨w4.heap.size,0,none⟩ 1 1 [.pointer (some ⟨pc,0,none⟩)] rfl rfl (Zgt _ _ _) (fun x hx=>by cases List.mem_singleton.1 hx;rfl) (Nat.zero_lt_one) (by unfold maxLen;omega) (by omega) HZ4.out _ rfl ?_);intro g7 p7 w7 own7 q7 hat7 hlt7)
    have hnew:∀b,(Value.slice (some ⟨g7,0,none⟩) (q+1) p7).ownBlock=some b→¬F4 b∧w1.heap.size≤b:=fun b e=>by
     cases e
     rcases hat7 with h|h
     ·refine⟨fun hF=>?_,?_⟩
      ·rcases HN4.out g7 hF with h3|h3
       ·exact HOB.out g7 h h3
       ·have:=(HO.out.lt g7 h).2
        omega
      ·exact(HO.out.lt g7 h).1
     ·refine⟨fun hF=>?_,?_⟩
      ·have:=HS4.out.low g7 hF
       simp at h
       omega
      ·have:=HBB.out.size
       have:=HB4.out.size
       simp at h
       show w1.heap.size≤g7
       omega
    go_roundw
    case rel=>
     have hTb:∀b,u5.ownBlock=some b→w1.heap.size≤b∧b<wr.heap.size:=fun b e=>HO.out.lt b e
     have hT:Zah (fun b=>u5.ownBlock=some b) w4 w7:=((Zah.refl _ w4).alloc _).grown q7 (fun b e=>.inl e)
     refine⟨q+1,by simp,by omega,F4,HS4.out.but (HJ.out _) hT (fun b hb=>⟨fun hF=>?_,.inr (Nat.le_trans HS1.out.env.size (hTb b hb).1)⟩),ZbO (ZbO HBB.out HB4.out HN.out) hT (fun b hb=>.inr (hTb b hb).1),fun b hb=>?_,?_,fun b e=>(hnew b e).1⟩
     ·rcases HN4.out b hF with h3|h3
      ·exact HOB.out b hb h3
      ·have:=(hTb b hb).2
       omega
     ·rcases HN4.out b hb with h3|h3
      ·exact HN.out b h3
      ·exact .inr (Nat.le_trans HBB.out.size h3)
     ·have hpq:ps[q]? =some pc:=by
       rw[←HPSL.out,List.getElem?_map,HC.out]
       show some (sc.pcs[c]?.getD 0)=some pc
       rw[HPC.out]
       rfl
      rw[List.take_add_one,hpq,List.map_append]
      exact own7
    case measure=>simp[intOf];omega
   ·obtain rfl:q=m:=by omega
    have hmpos:0<q:=by
     obtain⟨t0,ht0,hv0⟩:=HST.out.all v hvn2
     obtain⟨i0,hi0⟩:=List.mem_iff_getElem?.1 ht0
     rw[←HM.out]
     exact List.length_pos_of_mem ((ZcO sc.ts v i0).2 ⟨t0,hi0,hv0⟩)
    obtain⟨gl,cl,rfl,hcl⟩:=Za0 HO.out hmpos
    have hcells:∀(j c:Nat),(atv sc.ts v)[j]? =some c→∃pc,sc.pcs[c]? =some pc∧wr.cell? ⟨gl,j,none⟩=some (.pointer (some ⟨pc,0,none⟩)):=fun j c hc=>by
     obtain⟨t,ht,hvt⟩:=(ZcO sc.ts v c).1 (zmg hc)
     obtain⟨pc,pt,hpc,_⟩:=HST.out.of ht
     have hjq:j<q:=by rw[←HM.out];exact(zgs hc).1
     have hpq:ps[j]? =some pc:=by
      rw[←HPSL.out,List.getElem?_map,hc]
      show some (sc.pcs[c]?.getD 0)=some pc
      rw[hpc]
      rfl
     have:=HO.out.cells (g:=gl) rfl j (Zi2 pc) (by rw[List.getElem?_map,List.getElem?_take,if_pos hjq,hpq];rfl)
     rw[Addr.add_lit,Nat.zero_add] at this
     exact⟨pc,hpc,this⟩
    have hglF:¬F1 gl:=HOB.out gl rfl
    have LP:Hid (Calls Tryz.prog 138 #[.pointer (some ⟨sc.pw,0,none⟩),.int .i64 (v:Nat),.slice (some ⟨gl,0,none⟩) q cl] wr (Zim sc J Jx (done++(ZbQ sc.ts row v).flatMap fun key=>Zcv sc.ts sc.p k (v+1) (row++[key])) row v L F1 wr)):=
     Zty sc J Jx HST.out HJ.out HJX.out v k HK.out HFR.out done row wr L F1 HROW.out (by rw[←Zr0,HM.out];exact HS.out) HL.out gl cl q HM.out hcells hglF (fun u hu=>by
      rcases Nat.lt_or_ge u v with hlt|hge
      ·exact HPRE.out u hlt
      ·rw[List.take_of_length_le (by rw[HROW.out];exact hge),show u=v by omega]
       exact HB.out)
    have HCELLS:=zh hcells
    have HGLF:=zh hglF
    clear hS hB hN hown hob hcells hglF
    go_wp2_with fail
    refine LP.out.mono ?_
    rintro e w4 hp4
    have hp5:∃(b:Bool) (J':(Nat→Prop)→World→Prop) (pos:Nat→Nat),e=.returned (.bool b)∧ZbR sc J'∧Mv sc J' wr row (lvl sc.ts row v L pos) F1 w4∧∀w',Mv sc J' w row L F w'→Ze8 sc J Jx (done++Zcv sc.ts sc.p (k+1) v row) row L F w (.returned (.bool b)) w':=by
     have hbd:Zcv sc.ts sc.p (k+1) v row=(ZbQ sc.ts row v).flatMap fun key=>Zcv sc.ts sc.p k (v+1) (row++[key]):=by
      rw[Zcv,if_pos HB.out]
     rw[hbd]
     obtain⟨pos,⟨rfl,hM⟩|⟨rfl,hM⟩⟩:=hp4
     ·exact⟨true,_,pos,rfl,HJ.out _,hM,fun w' h=>.inl ⟨rfl,h⟩⟩
     ·exact⟨false,_,pos,rfl,HJX.out,hM,fun w' h=>.inr ⟨rfl,h⟩⟩
    clear hp4 LP
    obtain⟨b4,J4,pos,rfl,hJ4,hM4,hfin⟩:=hp5
    have HJ4:=zh hJ4
    have HFIN:=zh hfin
    have HM4:Hid (∃F2,WSt sc J4 w4 row (cls sc.ts v L (lvl sc.ts row v L pos) 0) F2∧Zah F1 wr w4∧∀b,F2 b→F1 b∨wr.heap.size≤b):=by
     rw[ZpL]
     exact hM4
    clear hJ4 hfin hM4
    go_wp2
    go_loopw [76] (fun iv wq=>∃j:Nat,iv=.int .i64 (j:Nat)∧j≤q∧∃F2,WSt sc J4 wq row (cls sc.ts v L (lvl sc.ts row v L pos) j) F2∧Zah F1 wr wq∧∀b,F2 b→F1 b∨wr.heap.size≤b) (fun iv _=>q-(intOf iv).toNat)
    case atStart=>exact⟨0,rfl,Nat.zero_le _,HM4.out⟩
    case round=>
     clear HM4
     obtain⟨j,rfl,hjq,F2,hS2,hB2,hN2⟩:=hrel
     by_cases hj:j<q
     ·obtain⟨c,hc⟩:∃c,(atv sc.ts v)[j]? =some c:=⟨_,zge (by rw[HM.out];exact hj)⟩
      obtain⟨t,ht,hvt⟩:=(ZcO sc.ts v c).1 (zmg hc)
      obtain⟨pc,hpc,hcell0⟩:=HCELLS.out j c hc
      have hcell:=hB2.cell HGLF.out hcell0
      have UP:=zh (x_up HST.out HJ4.out hS2 ht hpc)
      have HB2:=zh hB2
      have HN2:=zh hN2
      have HC:=zh hc
      clear hS2 hB2 hN2 hcell0 hc ht hpc
      go_wp2_with (go_at_call 139;(with_reducible refine UP.out.mono ?_);rintro e w5 ⟨⟨b5,rfl⟩,hM5⟩)
      go_roundw
      case rel=>
       rw[ZpM row L pos HC.out] at hM5
       exact⟨j+1,by simp,by omega,Mv.trans HB2.out HN2.out hM5⟩
      case measure=>simp[intOf];omega
     ·obtain rfl:j=q:=by omega
      rw[←HM.out,Zr1] at hS2
      have HS2:=zh hS2
      have HB2:=zh hB2
      have HN2:=zh hN2
      clear hS2 hB2 hN2
      go_wp2
      go_returns
      refine HFIN.out _ (Mv.trans ((Zah.refl _ _).ext HE1.out) (fun _ h=>.inl h) (Mv.trans HBB.out HN.out ⟨F2,HS2.out,HB2.out,HN2.out⟩))
