/- Maps whose keys are strings: what a look-up, a store, a deletion come to. -/
import Derived.Test.YtjfbjjmiobgjfaaGreatG1
set_option maxRecDepth 100000
set_option maxHeartbeats 8000000
namespace Go.Proofs.YtjfbjjmiobgjfaaGreat.K
open Go.RowKit
set_option linter.unusedSimpArgs false
theorem Zfb (a b:ByteArray):(a==b)=decide (a=b):=by
 rw[beq_toListBytes,Bool.eq_iff_iff,beq_iff_eq,decide_eq_true_eq,Zby]
 obtain⟨⟨x⟩⟩:=b
 rw[ByteArray.toList_eq]
def ZcB:List MapEntry→ByteArray→Option Value
 |[],_=>none
 |e::es,k=>match e.key with
  |.string s=>if s=k then some e.val else ZcB es k
  |_=>ZcB es k
def ZgW (es:List MapEntry):Prop:=(∀e∈es,∃s,e.key=.string s)∧(es.map (·.key)).Nodup
def ZhA (w:World)(b:Nat)(f:ByteArray→Option Value):Prop:=
 ∃es clock,w.heap[b]? =some (.map es clock)∧ZgW es.toList∧(∀k,f k=ZcB es.toList k)∧MapKept.Stamped es clock
def upd (f:ByteArray→Option Value)(k:ByteArray)(v:Option Value):ByteArray→Option Value:=fun x=>if x=k then v else f x
theorem Zgz:∀{es:List MapEntry},(∀e∈es,∃s,e.key=.string s)→∀{x:MapEntry} {k:ByteArray},x∈es→x.key=.string k→ZcB es k≠none
 |[],_,_,_,h,_=>by cases h
 |a::es,h,x,k,hm,hk=>by
  obtain⟨s,hs⟩:=h a (by simp)
  simp only[ZcB,hs]
  split
  ·simp
  ·rename_i hne
   rcases List.mem_cons.1 hm with rfl|hm
   ·exfalso;rw[hk] at hs;cases hs;exact hne rfl
   ·exact Zgz (fun e he=>h e (by simp[he])) hm hk
theorem ZgA:∀{es:List MapEntry} {k:ByteArray} {v:Value},ZcB es k=some v→∃x∈es,x.key=.string k
 |[],_,_,h=>by cases h
 |a::es,k,v,h=>by
  unfold ZcB at h
  split at h
  ·rename_i s hs
   split at h
   ·rename_i e
    exact⟨a,by simp,by rw[hs,e]⟩
   ·obtain⟨x,hx,q⟩:=ZgA h
    exact⟨x,List.mem_cons_of_mem _ hx,q⟩
  ·obtain⟨x,hx,q⟩:=ZgA h
   exact⟨x,List.mem_cons_of_mem _ hx,q⟩
theorem Zgk {es:List MapEntry}(h:∀e∈es,∃s,e.key=.string s)(k:ByteArray)(hl:ZcB es k=none)(i:Nat):Instr.findNow .string (.string k) es i=some none:=by
 induction es generalizing i with
 |nil=>rfl
 |cons e es ih=>
  obtain⟨s,hs⟩:=h e (by simp)
  simp only[ZcB,hs] at hl
  split at hl
  ·cases hl
  ·rename_i hne
   have hb:(k==s)=false:=by rw[Zfb];simp;exact fun e=>hne e.symm
   simp only[Instr.findNow,hs,Instr.sameNow,hb]
   exact ih (fun e he=>h e (by simp[he])) hl (i+1)
theorem Zgl {es:List MapEntry}(h:∀e∈es,∃s,e.key=.string s)(k:ByteArray){v:Value}(hl:ZcB es k=some v)(i:Nat):
  ∃j e,Instr.findNow .string (.string k) es i=some (some (i+j,v))∧es[j]? =some e∧e.key=.string k∧e.val=v:=by
 induction es generalizing i with
 |nil=>cases hl
 |cons e es ih=>
  obtain⟨s,hs⟩:=h e (by simp)
  simp only[ZcB,hs] at hl
  split at hl
  ·rename_i he
   cases hl
   have hb:(k==s)=true:=by rw[Zfb];simp[he]
   exact⟨0,e,by simp only[Instr.findNow,hs,Instr.sameNow,hb];rfl,rfl,by rw[hs,he],rfl⟩
  ·rename_i hne
   have hb:(k==s)=false:=by rw[Zfb];simp;exact fun e=>hne e.symm
   obtain⟨j,e',h1,h2,h3,h4⟩:=ih (fun e he=>h e (by simp[he])) hl (i+1)
   refine⟨j+1,e',?_,by simpa using h2,h3,h4⟩
   simp only[Instr.findNow,hs,Instr.sameNow,hb]
   rw[h1]
   congr 3
   omega
section
variable {P:Program} {w:World} {b:Nat} {f:ByteArray→Option Value} {t kt et:TypeId}
theorem ZpU (hs:ZhA w b f)(ht:P.underlying t=some (.map kt et))(hk:P.underlying kt=some .string){z:Value}(hz:(zeroValue et).run P w=.ok z w)(k:ByteArray)(c:Bool):
  (Instr.lookup t (.map (some b)) (.string k) c).run P w=.ok (if c then .tuple #[(f k).getD z,.bool (f k).isSome] else (f k).getD z) w:=by
 obtain⟨es,clock,h1,h2,h3,h4⟩:=hs
 have hck:(Instr.checkKey es.isEmpty 10000 kt (.string k)).run P w=.ok () w:=@MapKept.run_checkKey P w kt .string (.string k) hk (by exact trivial) es.isEmpty 9999
 rw[h3 k]
 cases hl:ZcB es.toList k with
 |none=>
  have hf:=MapKept.run_findKey (P:=P) (w:=w) hk (Zgk h2.1 k hl 0)
  simp only[Instr.lookup,Sem.run_bind,run_underlying ht,Result.andThen_ok,Sem.run_pure,getObj,Sem.run,h1,hck,hf,hz]
  cases c <;> rfl
 |some v=>
  obtain⟨j,e,hf0,_,_,_⟩:=Zgl h2.1 k hl 0
  have hf:=MapKept.run_findKey (P:=P) (w:=w) hk hf0
  simp only[Instr.lookup,Sem.run_bind,run_underlying ht,Result.andThen_ok,Sem.run_pure,getObj,Sem.run,h1,hck,hf]
  cases c <;> rfl
theorem Zku {es:List MapEntry}(hk:ZgW es){j:Nat}{e:MapEntry}{k:ByteArray}(hj:es[j]? =some e)(he:e.key=.string k)(v:Value)(x:ByteArray):
  ZcB (es.modify j fun e=>{e with key:=.string k,val:=v}) x=if x=k then some v else ZcB es x:=by
 induction es generalizing j with
 |nil=>simp at hj
 |cons a es ih=>
  obtain⟨s,hs⟩:=hk.1 a (by simp)
  have hk':ZgW es:=⟨fun e h=>hk.1 e (by simp[h]),(List.nodup_cons.1 hk.2).2⟩
  cases j with
  |zero=>
   simp at hj
   subst hj
   rw[he] at hs
   cases hs
   simp only[List.modify_zero_cons,ZcB,he]
   by_cases hx:x=k
   ·simp[hx]
   ·simp[hx,Ne.symm hx]
  |succ j=>
   simp at hj
   simp only[List.modify_succ_cons,ZcB,hs,ih hk' hj]
   by_cases hx:x=k
   ·subst hx
    rw[if_pos rfl,if_pos rfl]
    split
    ·rename_i h
     exfalso
     have hm:e.key∈es.map (·.key):=List.mem_map.2 ⟨e,zmg hj,rfl⟩
     rw[he,←h,←hs] at hm
     exact(List.nodup_cons.1 hk.2).1 hm
    ·rfl
   ·simp[hx]
theorem ZnB {es:List MapEntry}(hk:ZgW es){j:Nat}{e:MapEntry}{k:ByteArray}(hj:es[j]? =some e)(he:e.key=.string k)(v:Value):
  ZgW (es.modify j fun e=>{e with key:=.string k,val:=v}):=by
 have hm:(es.modify j fun e=>{e with key:=.string k,val:=v}).map (·.key)=es.map (·.key):=by
  apply List.ext_getElem?
  intro i
  simp only[List.getElem?_map,List.getElem?_modify]
  by_cases hi:j=i
  ·subst hi;simp[hj,he]
  ·simp[hi]
 refine⟨fun x hx=>?_,by rw[hm];exact hk.2⟩
 have:x.key∈es.map (·.key):=by rw[←hm];exact List.mem_map.2 ⟨x,hx,rfl⟩
 obtain⟨y,hy,hyk⟩:=List.mem_map.1 this
 obtain⟨s,hs⟩:=hk.1 y hy
 exact⟨s,by rw[←hyk,hs]⟩
theorem ZnC {es:List MapEntry}{k:ByteArray}(hl:ZcB es k=none)(h:∀e∈es,∃s,e.key=.string s)(v:Value)(c:Nat)(x:ByteArray):
  ZcB (es++[{key:=.string k,val:=v,born:=c}]) x=if x=k then some v else ZcB es x:=by
 induction es with
 |nil=>
  by_cases hx:x=k
  ·simp[ZcB,hx]
  ·simp[ZcB,hx,Ne.symm hx]
 |cons a es ih=>
  obtain⟨s,hs⟩:=h a (by simp)
  simp only[ZcB,hs] at hl
  split at hl
  ·cases hl
  ·rename_i hne
   simp only[List.cons_append,ZcB,hs,ih hl (fun e he=>h e (by simp[he]))]
   by_cases hx:x=k
   ·subst hx;simp[hne]
   ·simp[hx]
theorem Zr8 {es:List MapEntry}(hk:ZgW es){k:ByteArray}(hl:ZcB es k=none)(v:Value)(c:Nat):
  ZgW (es++[{key:=.string k,val:=v,born:=c}]):=by
 refine⟨fun e he=>?_,?_⟩
 ·rcases List.mem_append.1 he with h|h
  ·exact hk.1 e h
  ·simp at h;exact⟨k,by rw[h]⟩
 ·rw[List.map_append,List.nodup_append]
  refine⟨hk.2,by simp,fun a ha b hb=>?_⟩
  simp at hb
  subst hb
  rintro rfl
  obtain⟨e,he,hek⟩:=List.mem_map.1 ha
  clear ha
  have:∀es:List MapEntry,(∀e∈es,∃s,e.key=.string s)→e∈es→ZcB es k≠none:=by
   intro es
   induction es with
   |nil=>simp
   |cons a es ih=>
    intro h hm
    obtain⟨s,hs⟩:=h a (by simp)
    simp only[ZcB,hs]
    split
    ·simp
    ·rename_i hne
     rcases List.mem_cons.1 hm with rfl|hm
     ·exfalso;rw[hek] at hs;cases hs;exact hne rfl
     ·exact ih (fun e he=>h e (by simp[he])) hm
  exact this es hk.1 he hl
def Zdn (w:World)(b:Nat)(o:Obj):World:={w with heap:=w.heap.setIfInBounds b o}
theorem Zgm (w:World)(b:Nat)(o:Obj):w.grownBy (Zdn w b o) (some b):=
 ⟨rfl,rfl,rfl,by simp[Zdn],fun k hk hne=>by simp[Zdn];rw[Array.getElem?_setIfInBounds_ne (fun e=>hne (by rw[e]))]⟩
theorem ZnD (hs:ZhA w b f)(ht:P.underlying t=some (.map kt et))(hk:P.underlying kt=some .string)(k:ByteArray)(v:Value):
  ∃o,(Instr.mapUpdate t (.map (some b)) (.string k) v).run P w=.ok () (Zdn w b o)∧ZhA (Zdn w b o) b (upd f k (some v)):=by
 obtain⟨es,clock,h1,h2,h3,h4⟩:=hs
 have hck:(Instr.checkKey false 10000 kt (.string k)).run P w=.ok () w:=@MapKept.run_checkKey P w kt .string (.string k) hk (by exact trivial) false 9999
 have hb:b<w.heap.size:=(zag h1).1
 cases hl:ZcB es.toList k with
 |none=>
  have hf:=MapKept.run_findKey (P:=P) (w:=w) hk (Zgk h2.1 k hl 0)
  refine⟨.map (es.push {key:=.string k,val:=v,born:=clock}) (clock+1),?_,?_⟩
  ·simp only[Instr.mapUpdate,Sem.run_bind,run_underlying ht,Result.andThen_ok,Sem.run_pure,getObj,Sem.run,h1,hck,hf,setObj]
   rfl
  ·refine⟨_,_,by simp[Zdn,hb];first|exact⟨rfl,rfl⟩|rfl,?_,fun x=>?_,MapKept.stamped_push h4 fun x hx e=>Zgz h2.1 hx e hl⟩
   ·rw[Array.toList_push];exact Zr8 h2 hl v clock
   ·rw[Array.toList_push,ZnC hl h2.1,upd,h3]
 |some u=>
  obtain⟨j,e,hf0,hj,hek,_⟩:=Zgl h2.1 k hl 0
  have hf:=MapKept.run_findKey (P:=P) (w:=w) hk hf0
  have hj':es[0+j]? =some e:=by simpa using hj
  have hbeq:(k==k)=true:=by rw[Zfb];simp
  refine⟨.map (es.modify (0+j) fun e=>{e with key:=.string k,val:=v}) clock,?_,?_⟩
  ·simp only[Instr.mapUpdate,Sem.run_bind,run_underlying ht,Result.andThen_ok,Sem.run_pure,getObj,Sem.run,h1,hck,hf,setObj,hj',Option.map_some,Option.getD_some,hek,Instr.keyThatStays,Instr.sameBits,hbeq,if_true]
   rfl
  ·have ST:MapKept.Stamped (es.modify (0+j) fun e=>{e with key:=.string k,val:=v}) clock:=MapKept.stamped_modify h4 (0+j) (fun e=>{e with key:=.string k,val:=v}) (fun _ _=>rfl) fun e' _ he'=>by
    rw[hj'] at he'
    cases he'
    exact hek.symm
   refine⟨_,_,by simp[Zdn,hb];first|exact⟨rfl,rfl⟩|rfl,?_,fun x=>?_,by first|exact ST|simpa using ST⟩
   ·rw[Array.toList_modify];exact ZnB h2 hj hek v
   ·rw[Array.toList_modify,Zku h2 hj hek,upd,h3]
theorem ZhA.ext {w':World}(hs:ZhA w b f)(h:Ext w w'):ZhA w' b f:=by
 obtain⟨es,clock,h1,h2,h3⟩:=hs
 exact⟨es,clock,by rw[h.block b (zag h1).1];exact h1,h2,h3⟩
theorem ZhA.lt (hs:ZhA w b f):b<w.heap.size:=by
 obtain⟨es,clock,h1,h2,h3⟩:=hs
 exact(zag h1).1
theorem ZhA.made (w:World):ZhA (w.alloc (.map #[] 0)) w.heap.size (fun _=>none):=
 ⟨#[],0,heap_alloc_new w _,⟨by simp,by simp⟩,fun _=>rfl,MapKept.stamped_empty _⟩
end
end Go.Proofs.YtjfbjjmiobgjfaaGreat.K
namespace Go.Proofs.YtjfbjjmiobgjfaaGreat
open ChangeShapes WideShapes ChangeAt RowKit
def Zgu (xs:List ByteArray)(t:ByteArray):Int:=match xs.findIdx? (fun y=>decide (t=y)) with
 |some i=>(i:Int)
 |none=> -1
theorem Zkv {xs:List ByteArray}{t:ByteArray}{k:Nat}(h1:xs[k]? =some t)(h2:∀j y,j<k→xs[j]? =some y→t≠y):Zgu xs t=(k:Int):=by
 unfold Zgu
 have:xs.findIdx? (fun y=>decide (t=y))=some k:=by
  rw[List.findIdx?_eq_some_iff_getElem]
  obtain⟨hk,e⟩:=zgs h1
  refine⟨hk,by simp[e],fun j hj=>?_⟩
  have:=h2 j xs[j] hj (zge (by omega))
  simpa using this
 rw[this]
theorem ZnE {xs:List ByteArray}{t:ByteArray}(h:∀(j:Nat) (y:ByteArray),xs[j]? =some y→t≠y):Zgu xs t=-1:=by
 unfold Zgu
 have:xs.findIdx? (fun y=>decide (t=y))=none:=by
  rw[List.findIdx?_eq_none_iff]
  intro y hy
  obtain⟨j,hj⟩:=List.mem_iff_getElem?.1 hy
  simpa using h j y hj
 rw[this]
theorem ZeM (xs:List ByteArray)(t:ByteArray):0≤Zgu xs t↔t∈xs:=by
 by_cases hm:t∈xs
 ·refine⟨fun _=>hm,fun _=>?_⟩
  unfold Zgu
  cases h:xs.findIdx? (fun y=>decide (t=y)) with
  |some i=>exact Int.natCast_nonneg i
  |none=>
   rw[List.findIdx?_eq_none_iff] at h
   have:=h t hm
   simp at this
 ·have:Zgu xs t=-1:=ZnE fun j y hj e=>hm (e ▸ zmg hj)
  rw[this]
  exact⟨fun h=>absurd h (by omega),fun h=>absurd h hm⟩
theorem Ziu (xs:List ByteArray)(t:ByteArray)(a:Option Addr)(n cap:Nat)(w:World)(h:Zai w a n xs):
  Calls Tryz.prog 66 #[.slice a n cap,.string t] w fun e w'=>e=.returned (.int .i64 (Zgu xs t))∧w'=w:=by
 have H:=zh h
 have hn:n≤9223372036854775807:=h.1
 clear h
 go_enter Tryz.func66,Tryz.ntmps66
 go_wp2
 go_loopw [8] (fun iv wr=>wr=w∧∃k:Nat,iv=.int .i64 (k:Nat)∧k≤n∧∀j y,j<k→xs[j]? =some y→t≠y) (fun iv _=>n-(intOf iv).toNat)
 case atStart=>exact⟨rfl,0,rfl,Nat.zero_le _,fun j y h=>absurd h (by omega)⟩
 case round=>
  obtain⟨rfl,k,rfl,hkn,hall⟩:=hrel
  have HA:=zh hall
  clear hall
  by_cases hk:k<n
  ·obtain⟨y,b,off,h1,rfl,h2⟩:=H.out.2.at hk
   rw[Nat.mul_one] at h2
   have h3:wr.cell? ⟨b,off+k,none⟩=some (.string y):=h2
   have HX:=zh h1
   clear h1 h2
   by_cases he:t=y
   ·subst he
    have hbe:(t.toList==t.toList)=true:=by simp
    go_wp2
    go_returns
    exact⟨by rw[Zkv HX.out HA.out];rfl,rfl⟩
   ·have hbe:(t.toList==y.toList)=false:=by rw[Zbr,decide_eq_false he]
    have HNE:=zh he
    clear he
    go_wp2
    go_roundw
    case rel=>
     refine⟨by first|trivial|rfl,k+1,by simp,by omega,fun j z hj hz=>?_⟩
     rcases Nat.lt_or_ge j k with h|h
     ·exact HA.out j z h hz
     ·obtain rfl:j=k:=by omega
      rw[HX.out] at hz
      cases hz
      exact HNE.out
    case measure=>simp[intOf];omega
  ·obtain rfl:k=n:=by omega
   go_wp2
   go_returns
   refine⟨?_,rfl⟩
   rw[ZnE fun j y hj=>HA.out j y (by rw[←H.out.2.1];exact(zgs hj).1) hj]
   rfl
theorem ZgX (xs:List ByteArray)(t:ByteArray)(a:Option Addr)(n cap:Nat)(w:World)(h:Zai w a n xs):
  Calls Tryz.prog 59 #[.slice a n cap,.string t] w fun e w'=>e=.returned (.bool (decide (0≤Zgu xs t)))∧w'=w:=by
 have I:=zh (Ziu xs t a n cap w h)
 clear h
 go_enter Tryz.func59,Tryz.ntmps59
 go_wp2_with (go_at_call 66;(with_reducible refine I.out.mono ?_);rintro e w1 ⟨rfl,hw1⟩;obtain rfl:=hw1.symm)
 go_returns
 first|trivial|exact⟨rfl,rfl⟩
open K (ZaG Zda ZaQ Zaq Zbl ZaR Zbw Zcm)
abbrev Zd8 (t:ZaG):Value:=.agg #[.int .i64 t.kind,.string t.text]
def ZpV (t:ZaG):Bool:=decide (t.kind<1)||decide (3<t.kind)
theorem ZnF (t:ZaG)(w:World):Calls Tryz.prog 128 #[Zd8 t] w fun e w'=>e=.returned (.bool (ZpV t))∧Ext w w':=by
 obtain⟨b1,e1⟩:∃b,decide (t.kind<1)=b:=⟨_,rfl⟩
 obtain⟨b2,e2⟩:∃b,decide (3<t.kind)=b:=⟨_,rfl⟩
 have fin:Hid (ZpV t=(b1||b2)):=by
  show _=_
  subst e1 e2
  rfl
 cases b1 <;> cases b2
 all_goals
  go_enter Tryz.func128,Tryz.ntmps128
  go_wp2
  go_ret
  refine⟨ZaS ?_,Zab zbr _⟩
  rw[fin.out]
  rfl
def Zlt (t:ZaG):Bool:=decide (4≤t.kind)
def Ziv (b:Bool)(w:World)(e:Ending)(w':World):Prop:=∃i:Int,e=.returned (.int .i64 i)∧decide (0≤i)=b∧Ext w w'
def ZnG (p:ZaG→Bool)(ts:List ZaG)(n:Nat)(W:World)(i:Value)(wr:World):Prop:=
 ∃k:Nat,k≤n∧i=.int .i64 k∧Ext W wr∧ts.any p=(ts.drop k).any p
theorem ZpW (ts:List ZaG)(a:Option Addr)(n cap:Nat)(w:World)(ht:Zaq w a n ts):
  Calls Tryz.prog 53 #[.slice a n cap,.func (.func 128) #[] #[]] w (Ziv (ts.any ZpV) w):=by
 have hn:=ht.1
 have HL:=zh ht.2.1
 have HT:=zh ht
 clear ht
 go_enter Tryz.func53,Tryz.ntmps53
 go_wp2
 go_loopw [8] (fun i wr=>ZnG ZpV ts n w i wr) (fun i _=>n-(intOf i).toNat)
 case atStart=>exact⟨0,by omega,rfl,Below.refl _ _,by simp⟩
 case round=>
  obtain⟨k,hk,rfl,hb,hq⟩:=hrel
  have HQ:=zh hq
  clear hq
  by_cases hlt:k<n
  ·obtain⟨t,bt,off,hx,rfl,hc1,hc2,hc3⟩:=(HT.out.keep hb).2.at hlt
   have HX:=zh (Zbn hx)
   clear hx
   go_wp2_with (go_at_call 128;(with_reducible refine(ZnF t _).mono ?_);rintro e w2 ⟨rfl,hb2⟩)
   ·go_ret
    refine⟨_,rfl,?_,Zaa hb hb2⟩
    rw[HQ.out,HX.out]
    simp_all
   ·go_roundw
    case rel=>exact⟨k+1,by omega,by go_num,Zaa hb hb2,by rw[HQ.out,HX.out];simp_all⟩
    case measure=>simp[intOf];omega
  ·go_wp2
   go_ret
   refine⟨_,rfl,?_,hb⟩
   rw[HQ.out,List.drop_of_length_le (by have:=HL.out;omega)]
   rfl
theorem ZnH (ts:List ZaG)(a:Option Addr)(n cap:Nat)(w:World)(ht:Zaq w a n ts):
  Calls Tryz.prog 127 #[.slice a n cap,.func (.func 128) #[] #[]] w fun e w'=>e=.returned (.bool (ts.any ZpV))∧Ext w w':=by
 go_enter Tryz.func127,Tryz.ntmps127
 go_wp2_with (go_at_call 53;(with_reducible refine(ZpW ts _ _ _ _ ht).mono ?_);rintro e w2 ⟨i,rfl,hi,hb2⟩)
 go_ret
 exact⟨rfl,hb2⟩
def Zbt (ts:List ZaG):Bool:=!ts.any ZpV
theorem Zlu (ts:List ZaG)(a:Option Addr)(n cap:Nat)(w:World)(ht:Zaq w a n ts):Calls Tryz.prog 99 #[.slice a n cap] w fun e w'=>e=.returned (.bool (Zbt ts))∧Ext w w':=by
 go_enter Tryz.func99,Tryz.ntmps99
 go_wp2_with (go_at_call 127;(with_reducible refine(ZnH ts _ _ _ _ ht).mono ?_);rintro e w2 ⟨rfl,hb2⟩)
 go_ret
 exact⟨rfl,hb2⟩
def Zfc (ts:List ZaG):Nat:=(ts.filter Zlt).length
def Znc (t:ZaG):Bool:=decide (t.kind<1)||decide (7<t.kind)
def Zb7 (ts:List ZaG):Bool:=!ts.any Znc&&(decide (Zfc ts<2)&&decide (ts.length≤64))
theorem ZfP (ts:List ZaG)(t:ZaG):Zfc (ts++[t])=Zfc ts+(if Zlt t=true then 1 else 0):=by
 unfold Zfc
 rw[List.filter_append,List.length_append]
 by_cases h:Zlt t=true <;> simp[List.filter,h]
theorem ZtE (ts:List ZaG)(a:Option Addr)(n cap:Nat)(w:World)(ht:Zaq w a n ts):Calls Tryz.prog 55 #[.slice a n cap] w fun e w'=>e=.returned (.bool (Zb7 ts))∧Ext w w':=by
 have HT:=zh ht
 have HL:=zh ht.2.1
 have hn:=ht.1
 clear ht
 go_enter Tryz.func55,Tryz.ntmps55
 go_wp2
 go_loopw [3,8] (fun v u wj=>∃k:Nat,k≤n∧u=.int .i64 k∧v=.int .i64 ((Zfc (ts.take k):Nat):Int)∧Zfc (ts.take k)≤k∧(ts.take k).any Znc=false∧Ext w wj) (fun _ u _=>n-(intOf u).toNat)
 case atStart=>exact⟨0,by omega,rfl,rfl,by simp[Zfc],by simp,Below.refl _ _⟩
 case round=>
  obtain⟨k,hk,rfl,rfl,hak,hq,hb⟩:=hrel
  have HQ:=zh hq
  clear hq
  obtain⟨g,hg⟩:∃g,Zfc (ts.take k)=g:=⟨_,rfl⟩
  have HG:=zh hg
  rw[hg] at hak ⊢
  clear hg
  by_cases hlt:k<n
  ·have hki:(k:Int)<(n:Int):=by omega
   obtain⟨t,bt,off,hx,rfl,hc1,hc2,hc3⟩:=(HT.out.keep hb).2.at hlt
   have HX:=zh hx
   have HTK:Hid (ts.take (k+1)=ts.take k++[t]):=ZaA hx
   clear hx
   obtain⟨b1,e1⟩:∃b,decide (t.kind<1)=b:=⟨_,rfl⟩
   obtain⟨b2,e2⟩:∃b,decide (7<t.kind)=b:=⟨_,rfl⟩
   obtain⟨b3,e3⟩:∃b,decide (4≤t.kind)=b:=⟨_,rfl⟩
   have HO:Hid (Znc t=(b1||b2)):=by show _=_;subst e1 e2;rfl
   have HA:Hid (Zlt t=b3):=by show _=_;exact e3
   have HB:Hid (Ext w wr):=hb
   cases b1
   ·cases b2
    ·cases b3
     all_goals
      go_wp2
      go_roundw
      case rel=>exact⟨k+1,by omega,by go_num,by rw[HTK.out,ZfP,HA.out,HG.out];first|rfl|(simp;go_num),by rw[HTK.out,ZfP,HA.out,HG.out];simp;omega,by rw[HTK.out,List.any_append,HQ.out];simp[HO.out],Zab HB.out _⟩
      case measure=>simp[intOf];omega
    ·go_wp2
     go_ret
     refine⟨ZaS ?_,Zab HB.out _⟩
     have:ts.any Znc=true:=List.any_eq_true.2 ⟨t,zmg HX.out,HO.out⟩
     simp[Zb7,this]
   ·go_wp2
    go_ret
    refine⟨ZaS ?_,Zab HB.out _⟩
    have:ts.any Znc=true:=List.any_eq_true.2 ⟨t,zmg HX.out,by rw[HO.out];rfl⟩
    simp[Zb7,this]
  ·obtain rfl:k=n:=by omega
   have hge:¬(k:Int)<(k:Int):=by omega
   have HALL:Hid (ts.take k=ts):=List.take_of_length_le (by have:=HL.out;omega)
   obtain⟨b1,e1⟩:∃b,decide ((g:Int)<2)=b:=⟨_,rfl⟩
   obtain⟨b2,e2⟩:∃b,decide ((k:Int)≤64)=b:=⟨_,rfl⟩
   have fin:Hid (Zb7 ts=(b1&&b2)):=by
    show _=_
    have h1:=HQ.out
    have h2:=HG.out
    have h3:=HL.out
    rw[HALL.out] at h1 h2
    unfold Zb7
    have q1:decide (g<2)=b1:=by rw[←e1];simp only[decide_eq_decide];omega
    have q2:decide (k≤64)=b2:=by rw[←e2];simp only[decide_eq_decide];omega
    rw[h1,h2,h3,q1,q2]
    simp
   cases b1 <;> cases b2
   all_goals
    go_wp2
    go_ret
    exact⟨ZaS (by rw[fin.out];rfl),hb⟩
def Zbf (l:K.Lit):Bool:=if l.kind=1∨l.kind=2 then decide (l.atom.terms.length≤64)&&Zbt l.atom.terms else if l.kind=3 then (decide (1≤l.op)&&decide (l.op≤4))&&Zbt [l.left,l.right] else false
abbrev ZtF (l:K.Lit)(a:Option Addr)(n cap:Nat):Value:=.agg #[.int .i64 l.kind,.string l.atom.pred,.slice a n cap,.int .i64 l.op,.int .i64 l.left.kind,.string l.left.text,.int .i64 l.right.kind,.string l.right.text]
theorem ZnI (l:K.Lit)(a:Option Addr)(n cap:Nat)(w:World)(ht:Zaq w a n l.atom.terms)(hl:l.left.text.size≤maxLen)(hr:l.right.text.size≤maxLen):Calls Tryz.prog 56 #[ZtF l a n cap] w fun e w'=>e=.returned (.bool (Zbf l))∧Ext w w':=by
 have HT:=zh ht
 have HL:=zh ht.2.1
 have HLL:=zh hl
 have HRL:=zh hr
 have hn:=ht.1
 clear ht hl hr
 obtain⟨b1,e1⟩:∃b,(l.kind==1)=b:=⟨_,rfl⟩
 obtain⟨b2,e2⟩:∃b,(l.kind==2)=b:=⟨_,rfl⟩
 obtain⟨b3,e3⟩:∃b,(l.kind==3)=b:=⟨_,rfl⟩
 have K1:Hid ((l.kind=1)↔b1=true):=by show _↔_;rw[←e1];simp
 have K2:Hid ((l.kind=2)↔b2=true):=by show _↔_;rw[←e2];simp
 have K3:Hid ((l.kind=3)↔b3=true):=by show _↔_;rw[←e3];simp
 have SH:Hid (∀W,Ext w W→Calls Tryz.prog 99 #[.slice a n cap] W fun e w'=>e=.returned (.bool (Zbt l.atom.terms))∧Ext W w'):=fun W hW=>Zlu l.atom.terms a n cap W (HT.out.keep hW)
 by_cases h12:b1=true∨b2=true
 ·obtain⟨b4,e4⟩:∃b,decide ((n:Int)≤64)=b:=⟨_,rfl⟩
  have fin:Hid (Zbf l=(b4&&Zbt l.atom.terms)):=by
   show _=_
   have q:decide (l.atom.terms.length≤64)=b4:=by rw[←e4,HL.out];simp only[decide_eq_decide];omega
   unfold Zbf
   rw[if_pos (h12.imp K1.out.2 K2.out.2),q]
  have E1:Hid (∀o,Ext w (w.alloc o)):=fun o=>Zab zbr o
  cases b1 <;> cases b2
  ·exact absurd h12 (by simp)
  all_goals
   clear h12
   cases b4
   ·go_enter Tryz.func56,Tryz.ntmps56
    go_wp2
    go_ret
    exact⟨ZaS (by rw[fin.out];rfl),E1.out _⟩
   ·go_enter Tryz.func56,Tryz.ntmps56
    go_wp2_with (go_at_call 99;(with_reducible refine(SH.out _ (E1.out _)).mono ?_);rintro e w2 ⟨rfl,hb2⟩)
    go_ret
    exact⟨ZaS (by rw[fin.out];rfl),Zaa (E1.out _) hb2⟩
 ·obtain⟨rfl,rfl⟩:b1=false∧b2=false:=by simpa using h12
  clear h12
  cases b3
  ·have fin:Hid (Zbf l=false):=by
    show _=_
    unfold Zbf
    rw[if_neg (fun h=>by rcases h with h|h;exact absurd (K1.out.1 h) (by simp);exact absurd (K2.out.1 h) (by simp)),if_neg (fun h=>absurd (K3.out.1 h) (by simp))]
   go_enter Tryz.func56,Tryz.ntmps56
   go_wp2
   go_ret
   exact⟨ZaS (by rw[fin.out]),Zab zbr _⟩
  ·obtain⟨b5,e5⟩:∃b,decide (1≤l.op)=b:=⟨_,rfl⟩
   obtain⟨b6,e6⟩:∃b,decide (l.op≤4)=b:=⟨_,rfl⟩
   have fin:Hid (Zbf l=((b5&&b6)&&Zbt [l.left,l.right])):=by
    show _=_
    unfold Zbf
    rw[if_neg (fun h=>by rcases h with h|h;exact absurd (K1.out.1 h) (by simp);exact absurd (K2.out.1 h) (by simp)),if_pos (K3.out.2 rfl),e5,e6]
   have S2:Hid (∀o,Calls Tryz.prog 99 #[.slice (some ⟨w.heap.size+1,0,none⟩) 2 2] ((w.alloc o).alloc (.cells #[.int .i64 l.left.kind,.string l.left.text,.int .i64 l.right.kind,.string l.right.text] 64)) fun e w'=>e=.returned (.bool (Zbt [l.left,l.right]))∧Ext ((w.alloc o).alloc (.cells #[.int .i64 l.left.kind,.string l.left.text,.int .i64 l.right.kind,.string l.right.text] 64)) w'):=fun o=>by
    have es:w.heap.size+1=(w.alloc o).heap.size:=by simp
    rw[es]
    clear es
    refine Zlu [l.left,l.right] _ 2 2 _ ⟨by omega,rfl,fun i x hx=>⟨(w.alloc o).heap.size,0,rfl,?_⟩⟩
    match i,hx with
    |0,hx=>
     cases hx
     exact⟨by go_simp,by go_simp,HLL.out⟩
    |1,hx=>
     cases hx
     exact⟨by go_simp,by go_simp,HRL.out⟩
   cases b5 <;> cases b6
   ·go_enter Tryz.func56,Tryz.ntmps56
    go_wp2
    go_ret
    exact⟨ZaS (by rw[fin.out];rfl),Zab zbr _⟩
   ·go_enter Tryz.func56,Tryz.ntmps56
    go_wp2
    go_ret
    exact⟨ZaS (by rw[fin.out];rfl),Zab zbr _⟩
   ·go_enter Tryz.func56,Tryz.ntmps56
    go_wp2
    go_ret
    exact⟨ZaS (by rw[fin.out];rfl),Zab zbr _⟩
   ·go_enter Tryz.func56,Tryz.ntmps56
    go_wp2_with (go_at_call 99;(with_reducible refine(S2.out _).mono ?_);rintro e w2 ⟨rfl,hb2⟩)
    go_ret
    exact⟨ZaS (by rw[fin.out];rfl),Zaa (Zab (Zab zbr _) _) hb2⟩
