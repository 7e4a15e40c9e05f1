/- Plain law of the document's bindings: the list that unlike makes. -/
import Derived.Test.YtjfbjjmiobgjfaaGreatG27
set_option maxRecDepth 100000
set_option maxHeartbeats 8000000
namespace Go.Proofs.YtjfbjjmiobgjfaaGreat
open K (ZaG Zda ZaQ)
def UpL (l:List ZcQ):Prop:=l.Pairwise fun a b=>Zaj a.2 b.2<0
theorem ZlF (l:List ZcQ)(f:ZcQ):∀j,j≤l.length→(∀k x,upE l f j≤k→k<j→l[k]? =some x→0<Zaj x.2 f.2)∧(∀x,0<upE l f j→l[upE l f j-1]? =some x→¬0<Zaj x.2 f.2)
 |0,_=>⟨fun k x _ h=>by omega,fun x h=>by simp[upE] at h⟩
 |j+1,hj=>by
  obtain⟨y,hy⟩:∃y,l[j]? =some y:=⟨_,zge (by omega)⟩
  have ih:=ZlF l f j (by omega)
  unfold upE
  rw[hy]
  by_cases h:0<Zaj y.2 f.2
  ·simp only[if_pos h]
   refine⟨fun k x h1 h2 h3=>?_,ih.2⟩
   by_cases e:k=j
   ·subst e;rw[hy] at h3;cases h3;exact h
   ·exact ih.1 k x h1 (by omega) h3
  ·simp only[if_neg h]
   refine⟨fun k x h1 h2=>by omega,fun x _ h3=>?_⟩
   simp only[Nat.add_sub_cancel] at h3
   rw[hy] at h3;cases h3;exact h
theorem Zp6 {l:List ZcQ}{f:ZcQ}(hn:∀x∈l,x.1=f.1)(g:ZcQ):g∈Zi3 l f↔g∈l∨g=f:=by
 have key:g∈l.take (upE l f l.length)++f::l.drop (upE l f l.length)↔g∈l∨g=f:=by
  have e:g∈l↔g∈l.take (upE l f l.length)∨g∈l.drop (upE l f l.length):=by
   rw[←List.mem_append,List.take_append_drop]
  rw[List.mem_append,List.mem_cons,e]
  constructor
  ·rintro (h|h|h)
   ·exact .inl (.inl h)
   ·exact .inr h
   ·exact .inl (.inr h)
  ·rintro ((h|h)|h)
   ·exact .inl h
   ·exact .inr (.inr h)
   ·exact .inr (.inl h)
 unfold Zi3
 split
 ·rename_i x hx
  split
  ·rename_i h0
   have hm:x∈l:=by
    split at hx
    ·exact zmg hx
    ·cases hx
   have:x=f:=Prod.ext (hn x hm) ((ZaH _ _).1 h0)
   constructor
   ·exact .inl
   ·rintro (h|rfl)
    ·exact h
    ·rw[←this];exact hm
  ·exact key
 ·exact key
theorem Zrj {l:List ZcQ}{f:ZcQ}(h:UpL l)(j:Nat)(h1:∀a∈l.take j,Zaj a.2 f.2<0)(h2:∀b∈l.drop j,Zaj f.2 b.2<0):UpL (l.take j++f::l.drop j):=
 List.pairwise_append.2 ⟨h.sublist (List.take_sublist _ _),List.pairwise_cons.2 ⟨h2,h.sublist (List.drop_sublist _ _)⟩,fun a ha b hb=>by
  rcases List.mem_cons.1 hb with rfl|hb
  ·exact h1 a ha
  ·exact ZbB _ _ _ (h1 a ha) (h2 b hb)⟩
theorem Zsh {l:List ZcQ}{f:ZcQ}(h:UpL l):UpL (Zi3 l f):=by
 have hs:=ZlF l f l.length (Nat.le_refl _)
 have hle:=ZlD l f l.length
 have hd:∀b∈l.drop (upE l f l.length),Zaj f.2 b.2<0:=fun b hb=>by
  obtain⟨i,hi⟩:=List.mem_iff_getElem?.1 hb
  rw[List.getElem?_drop] at hi
  have hlt:=(zgs hi).1
  have:=hs.1 _ b (by omega) hlt hi
  rw[Zcg b.2 f.2]
  omega
 unfold Zi3
 split
 ·rename_i x hx
  split
  ·exact h
  ·rename_i h0
   split at hx
   ·rename_i hpos
    have hx0:=hs.2 x hpos hx
    have hxf:Zaj x.2 f.2<0:=by omega
    refine Zrj h _ (fun a ha=>?_) hd
    obtain⟨i,hi⟩:=List.mem_iff_getElem?.1 ha
    have hlt:=(zgs hi).1
    rw[List.length_take] at hlt
    rw[List.getElem?_take,if_pos (by omega)] at hi
    by_cases e:i=upE l f l.length-1
    ·subst e;rw[hx] at hi;cases hi;exact hxf
    ·obtain⟨p1,e1⟩:=zgs hi
     obtain⟨p2,e2⟩:=zgs hx
     have:=List.pairwise_iff_getElem.1 h i _ p1 p2 (by omega)
     rw[e1,e2] at this
     exact ZbB _ _ _ this hxf
   ·cases hx
 ·rename_i hx
  have h0:upE l f l.length=0:=by
   split at hx
   ·rename_i hpos
    have:=List.getElem?_eq_none_iff.1 hx
    omega
   ·omega
  refine Zrj h _ (fun a ha=>?_) hd
  rw[h0] at ha
  simp at ha
theorem Zeq {ts:List ZaG}{ns vs ns':List ByteArray}(g:ZcQ):∀(rs:List (List ByteArray)) (out:List ZcQ),(∀x∈out,x.1=ns')→(∀r∈rs,∀f,Zbh ts r ns vs=some f→f.1=ns')→(g∈Zbc ts ns vs out rs↔g∈out∨∃r∈rs,Zbh ts r ns vs=some g)
 |[],out,_,_=>by simp[Zbc]
 |r::rs,out,h1,h2=>by
  unfold Zbc
  have h2':∀r'∈rs,∀f,Zbh ts r' ns vs=some f→f.1=ns':=fun r' hr'=>h2 r' (List.mem_cons_of_mem _ hr')
  split
  ·rename_i hf
   rw[Zeq g rs out h1 h2']
   constructor
   ·rintro (h|⟨r',hr',h⟩)
    ·exact .inl h
    ·exact .inr ⟨r',List.mem_cons_of_mem _ hr',h⟩
   ·rintro (h|⟨r',hr',h⟩)
    ·exact .inl h
    ·rcases List.mem_cons.1 hr' with rfl|hr'
     ·rw[hf] at h;cases h
     ·exact .inr ⟨r',hr',h⟩
  ·rename_i f hf
   have hfn:=h2 r (by simp) f hf
   have hmem:=Zp6 (l:=out) (f:=f) (fun x hx=>(h1 x hx).trans hfn.symm)
   rw[Zeq g rs (Zi3 out f) (fun x hx=>by rcases (hmem x).1 hx with h|rfl;exact h1 x h;exact hfn) h2',hmem]
   constructor
   ·rintro ((h|rfl)|⟨r',hr',h⟩)
    ·exact .inl h
    ·exact .inr ⟨r,by simp,hf⟩
    ·exact .inr ⟨r',List.mem_cons_of_mem _ hr',h⟩
   ·rintro (h|⟨r',hr',h⟩)
    ·exact .inl (.inl h)
    ·rcases List.mem_cons.1 hr' with rfl|hr'
     ·rw[hf] at h;cases h;exact .inl (.inr rfl)
     ·exact .inr ⟨r',hr',h⟩
theorem Zg2 {ts:List ZaG}{ns vs:List ByteArray}:∀(rs:List (List ByteArray)) (out:List ZcQ),UpL out→UpL (Zbc ts ns vs out rs)
 |[],_,h=>h
 |r::rs,out,h=>by
  unfold Zbc
  split
  ·exact Zg2 rs out h
  ·exact Zg2 rs _ (Zsh h)
theorem Zn8 (k:Int)(ts:List ZaG):∀ns:List ByteArray,∃a,ts.foldl (Zak k) ns=ns++a:=by
 induction ts with
 |nil=>intro ns;exact⟨[],by simp⟩
 |cons t ts ih=>
  intro ns
  obtain⟨a,ha⟩:=ih (Zak k ns t)
  rw[List.foldl_cons,ha]
  unfold Zak
  split
  ·exact⟨t.text::a,by simp⟩
  ·exact⟨a,rfl⟩
theorem Zn9 (ls:List K.Lit):∀ns:List ByteArray,∃a,ls.foldl Zb4 ns=ns++a:=by
 induction ls with
 |nil=>intro ns;exact⟨[],by simp⟩
 |cons l ls ih=>
  intro ns
  obtain⟨a,ha⟩:=ih (Zb4 ns l)
  obtain⟨b,hb⟩:=Zn8 l.kind l.atom.terms ns
  rw[List.foldl_cons,ha]
  unfold Zb4
  rw[hb]
  exact⟨b++a,by simp⟩
theorem Zp7 {ns:List ByteArray}{l:K.Lit}(h:l.kind≠1):Zb4 ns l=ns:=by
 unfold Zb4
 induction l.atom.terms generalizing ns with
 |nil=>rfl
 |cons t ts ih=>
  rw[List.foldl_cons]
  have:Zak l.kind ns t=ns:=by unfold Zak;rw[if_neg (fun q=>h q.1)]
  rw[this]
  exact ih
theorem Zjy {t:ZaG}(hk:t.kind=1):∀(ts:List ZaG) (ns:List ByteArray),(t∈ts∨t.text∈ns)→t.text∈ts.foldl (Zak 1) ns
 |[],ns,h=>by rcases h with h|h;cases h;exact h
 |u::ts,ns,h=>by
  rw[List.foldl_cons]
  refine Zjy hk ts _ ?_
  rcases h with h|h
  ·rcases List.mem_cons.1 h with rfl|h
   ·refine .inr ?_
    unfold Zak
    by_cases q:t.text∈ns
    ·rw[if_neg (fun z=>z.2.2 q)];exact q
    ·rw[if_pos ⟨rfl,hk,q⟩];simp
   ·exact .inl h
  ·refine .inr ?_
   unfold Zak
   split
   ·simp[h]
   ·exact h
theorem ZmF {n1 v1 a b:List ByteArray}{t q:ByteArray}(hl:n1.length=v1.length)(ht:t∈n1)(h:ZbM (n1++a) (v1++b) t=some q):ZbM n1 v1 t=some q:=by
 cases hs:ZbM n1 v1 t with
 |none=>exact absurd ht ((Zds _ _ _ hl).1 hs)
 |some s=>rw[Zc3 _ _ a b _ hs] at h;exact h
theorem Zer (dl:List Za7)(tests:List K.Lit)(x:List ByteArray):∀(ls:List K.Lit) (ns vs:List ByteArray),ns.length=vs.length→(x∈Zcx dl tests ls (ns,vs)↔(∃b,x=vs++b)∧x.length=(ls.foldl Zb4 ns).length∧(∀l∈ls,l.kind=1→∃q∈Zdj dl l.atom,∀p∈l.atom.terms.zip q,OkP (ls.foldl Zb4 ns) x p)∧tests.all (fun l=>decide (l.kind=1)||Zct l dl (ls.foldl Zb4 ns) x)=true)
 |[],ns,vs,hl=>by
  unfold Zcx
  simp only[List.foldl_nil]
  constructor
  ·intro h
   split at h
   ·rename_i ht
    rw[List.mem_singleton] at h
    subst h
    exact⟨⟨[],by simp⟩,hl.symm,by simp,ht⟩
   ·cases h
  ·rintro⟨⟨b,hb⟩,h2,_,h4⟩
   have:b=[]:=by
    subst hb
    simp at h2
    exact List.eq_nil_of_length_eq_zero (by omega)
   subst this
   simp at hb
   subst hb
   rw[if_pos h4]
   simp
 |l::ls,ns,vs,hl=>by
  unfold Zcx
  rw[List.foldl_cons]
  by_cases hk:l.kind=1
  ·rw[if_pos hk]
   obtain⟨N1,hN1⟩:∃N1,N1=l.atom.terms.foldl (Zak 1) ns:=⟨_,rfl⟩
   have hvl:Zb4 ns l=N1:=by unfold Zb4;rw[hk,hN1]
   rw[hvl]
   obtain⟨a,ha⟩:=Zn9 ls N1
   have hrow:∀r∈Zdj dl l.atom,r.length=l.atom.terms.length:=ZcJ
   have hout:∀r∈Zdj dl l.atom,∀f,Zbh l.atom.terms r ns vs=some f→f.1=N1:=fun r hr f hf=>by
    rw[hN1];exact(Zdd _ _ _ _ _ (hrow r hr) hl hf).1
   have hun:∀g,g∈Zbc l.atom.terms ns vs [] (Zdj dl l.atom)↔∃r∈Zdj dl l.atom,Zbh l.atom.terms r ns vs=some g:=fun g=>by
    rw[Zeq (ns':=N1) g _ [] (by simp) hout];simp
   rw[List.mem_flatMap]
   constructor
   ·rintro⟨e,he,hx⟩
    obtain⟨q,hq,hf⟩:=(hun e).1 he
    obtain⟨f1,⟨b1,f2⟩,f3,f4⟩:=Zdd _ _ _ _ _ (hrow q hq) hl hf
    obtain⟨e1,e2⟩:=e
    simp only at f1 f2 f3 f4
    rw[←hN1] at f1
    subst f1
    obtain⟨⟨b,hb⟩,h2,h3,h4⟩:=(Zer dl tests x ls e1 e2 f3).1 hx
    refine⟨⟨b1++b,by rw[hb,f2];simp⟩,h2,fun l' hl' hk'=>?_,h4⟩
    rcases List.mem_cons.1 hl' with rfl|hl'
    ·refine⟨q,hq,fun p hp=>⟨(f4 p hp).1,fun z=>?_⟩⟩
     rw[ha,hb]
     exact Zc3 _ _ _ _ _ ((f4 p hp).2 z)
    ·exact h3 l' hl' hk'
   ·rintro⟨⟨b,hb⟩,h2,h3,h4⟩
    obtain⟨q,hq,hok⟩:=h3 l (by simp) hk
    obtain⟨a1,ha1⟩:=Zeb l.atom.terms ns
    rw[←hN1] at ha1
    have hlen:x.length=N1.length+a.length:=by rw[h2,ha,List.length_append]
    have hx2:x=x.take N1.length++x.drop N1.length:=(List.take_append_drop _ _).symm
    have htl:N1.length=(x.take N1.length).length:=by rw[List.length_take];omega
    have hpre:x.take N1.length=vs++b.take (N1.length-vs.length):=by
     have:vs.length≤N1.length:=by rw[ha1,List.length_append];omega
     rw[hb,List.take_append,List.take_of_length_le this]
    have hfit:=Zg1 l.atom.terms q ns vs (b.take (N1.length-vs.length)) (hrow q hq) hl (by rw[←hN1,←hpre];exact htl) (fun p hp=>⟨(hok p hp).1,fun z=>by
     rw[←hN1,←hpre]
     have h5:=(hok p hp).2 z
     rw[ha,hx2] at h5
     refine ZmF htl ?_ h5
     rw[hN1]
     exact Zjy z _ _ (.inl (List.of_mem_zip hp).1)⟩)
    rw[←hN1,←hpre] at hfit
    refine⟨(N1,x.take N1.length),(hun _).2 ⟨q,hq,hfit⟩,?_⟩
    refine(Zer dl tests x ls N1 _ htl).2 ⟨⟨_,hx2⟩,h2,fun l' hl' hk'=>h3 l' (List.mem_cons_of_mem _ hl') hk',h4⟩
  ·rw[if_neg hk,Zp7 hk,Zer dl tests x ls ns vs hl]
   constructor
   ·rintro⟨h1,h2,h3,h4⟩
    refine⟨h1,h2,fun l' hl' hk'=>?_,h4⟩
    rcases List.mem_cons.1 hl' with rfl|hl'
    ·exact absurd hk' hk
    ·exact h3 l' hl' hk'
   ·rintro⟨h1,h2,h3,h4⟩
    exact⟨h1,h2,fun l' hl' hk'=>h3 l' (List.mem_cons_of_mem _ hl') hk',h4⟩
theorem ZgD (r:ZaQ)(dl:List Za7)(x:List ByteArray):x∈ZbS r dl↔x.length=(Zad r).length∧(∀l∈r.body,l.kind=1→∃q∈Zdj dl l.atom,∀p∈l.atom.terms.zip q,OkP (Zad r) x p)∧∀l∈r.body,l.kind≠1→Zct l dl (Zad r) x=true:=by
 unfold ZbS
 rw[Zer dl r.body x r.body [] [] rfl]
 show _∧_=(Zad r).length∧_∧_↔_
 constructor
 ·rintro⟨_,h2,h3,h4⟩
  refine⟨h2,h3,fun l hl hk=>?_⟩
  have:=List.all_eq_true.1 h4 l hl
  simp only[hk,decide_false,Bool.false_or] at this
  exact this
 ·rintro⟨h2,h3,h4⟩
  refine⟨⟨x,by simp⟩,h2,h3,List.all_eq_true.2 fun l hl=>?_⟩
  by_cases hk:l.kind=1
  ·simp[hk]
  ·simp only[hk,decide_false,Bool.false_or]
   exact h4 l hl hk
theorem Zf0 (dl:List Za7)(tests:List K.Lit):∀(ls:List K.Lit) (ns vs:List ByteArray),ns.length=vs.length→(Zcx dl tests ls (ns,vs)).Nodup
 |[],ns,vs,_=>by
  unfold Zcx
  split <;> simp
 |l::ls,ns,vs,hl=>by
  unfold Zcx
  by_cases hk:l.kind=1
  ·rw[if_pos hk]
   have hout:∀e∈Zbc l.atom.terms ns vs [] (Zdj dl l.atom),e.1=l.atom.terms.foldl (Zak 1) ns∧e.1.length=e.2.length:=fun e he=>by
    rw[Zeq (ns':=l.atom.terms.foldl (Zak 1) ns) e _ [] (by simp) (fun r hr f hf=>(Zdd _ _ _ _ _ (ZcJ r hr) hl hf).1)] at he
    rcases he with he|⟨q,hq,hf⟩
    ·cases he
    ·have:=Zdd _ _ _ _ _ (ZcJ q hq) hl hf
     exact⟨this.1,this.2.2.1⟩
   refine List.pairwise_flatMap.2 ⟨fun e he=>?_,?_⟩
   ·obtain⟨e1,e2⟩:=e
    exact Zf0 dl tests ls e1 e2 (hout _ he).2
   ·refine List.Pairwise.imp_of_mem (fun {a b} ha hb hab x hx y hy hxy=>?_) (Zg2 (Zdj dl l.atom) [] List.Pairwise.nil:UpL _)
    subst hxy
    obtain⟨a1,a2⟩:=a
    obtain⟨b1,b2⟩:=b
    have ka:=hout _ ha
    have kb:=hout _ hb
    obtain⟨⟨u,hu⟩,_⟩:=(Zer dl tests x ls a1 a2 ka.2).1 hx
    obtain⟨⟨v,hv⟩,_⟩:=(Zer dl tests x ls b1 b2 kb.2).1 hy
    have hle:a2.length=b2.length:=by
     have h1:=ka.2
     have h2:=kb.2
     have h3:=ka.1
     have h4:=kb.1
     simp only at h1 h2 h3 h4
     rw[←h1,←h2,h3,h4]
    have:=(List.append_inj (hu.symm.trans hv) hle).1
    simp only[this] at hab
    rw[(ZaH b2 b2).2 rfl] at hab
    omega
  ·rw[if_neg hk]
   exact Zf0 dl tests ls ns vs hl
theorem ZmG (r:ZaQ)(dl:List Za7):(ZbS r dl).Nodup:=Zf0 dl r.body r.body [] [] rfl
