/- Ranges over a function whose iterator hands out what lies in memory: how the statement is entered and left, and one round of it. -/
import Derived.Test.YtjfbjjmiobgjfaaGreatG2
import Derived.Test.YtjfbjjmiobgjfaaGreatG13
set_option maxRecDepth 100000
set_option maxHeartbeats 8000000
namespace Go.Proofs.YtjfbjjmiobgjfaaGreat
open ChangeShapes WideShapes ChangeAt RowKit Go.Shelf
def ZdV (fn:FuncId)(tmps:Array Value)(ps:Array Tmp)(assign body:Code)(D:Nat)(s:LoopState)(p:Option Code):Loop:={state:=s,pending:=p,fn:=fn,tmps:=tmps,params:=ps,assign:=assign,body:=body,defers:=D}
def Zr2 (l:Nat)(r:LoopState→Option Code→Loop)(R:Ending→World→Prop):Exit→Act→World→Prop
 |.normal,_,W=>W.heap[l]? =some (.loop (r .busy none))∧R (.returned (.bool true)) (W.putObj l (.loop (r .ready none)))
 |.exit id,_,W=>W.heap[l]? =some (.loop (r .busy none))∧R (.returned (.bool false)) (W.putObj l (.loop (r .done (some (.exit id)))))
 |.ret,_,W=>W.heap[l]? =some (.loop (r .busy none))∧R (.returned (.bool false)) (W.putObj l (.loop (r .done (some .ret))))
 |_,_,_=>False
theorem ZpN {n l D:Nat}{P:Program}{fn:FuncId}{tmps:Array Value}{ps:Array Tmp}{assign body:Code}{args:Array Value}{W:World}{R:Ending→World→Prop}(hl:W.heap[l]? =some (.loop (ZdV fn tmps ps assign body D .ready none)))(hs:args.size=ps.size)
  (h:assign.wpIn (Fence.wide.inRound l) n P (Exit.then (fun a w=>w=W∧body.wpIn (Fence.wide.inRound l) n P (Zr2 l (ZdV fn tmps ps assign body D) R) a (W.putObj l (.loop (ZdV fn tmps ps assign body D .busy none)))) (fun _ _ _=>False)) {tmps:=(ps.zip args).foldl (fun t (p,v)=>t.setIfInBounds p v) tmps,defers:=[]} W):
  YieldAt Fence.wide n P l args W R:=by
 refine⟨_,_,_,_,run_yield hl hs,roundIn_of_wpIn trivial (wpIn_mono h ?_)⟩
 intro e a w he
 cases e with
 |normal=>
  obtain⟨rfl,hb⟩:=he
  refine⟨_,run_beginRound hl rfl,wpIn_mono hb ?_⟩
  intro e a w he
  cases e with
  |normal=>exact⟨_,_,run_endRound none he.1,he.2⟩
  |exit id=>exact⟨_,_,run_endRound (some (.exit id)) he.1,he.2⟩
  |ret=>exact⟨_,_,run_endRound (some .ret) he.1,he.2⟩
  |goto t=>exact he.elim
  |panic c=>exact he.elim
  |outgrown=>exact he.elim
 |exit id=>exact he.elim
 |ret=>exact he.elim
 |goto t=>exact he.elim
 |panic c=>exact he.elim
 |outgrown=>exact he.elim
theorem ZpO {n gf:Nat}{P:Program}{g:Operand}{ps:Array Tmp}{assign body:Code}{Q:Exit→Act→World→Prop}{a:Act}{w:World}{lb:Array Value}(h1:1≤n)(hg:a.eval g=.func (.func gf) #[] lb)(eg:∀args w,(callFunc gf args).run P w=.ok (.enter gf args) w)
  (h:∀fn,CallsIn Fence.wide (n-1) P gf (#[.func (.yield (w.heap.size+1)) #[] #[]]++lb) ((w.alloc (.deferred (some []))).alloc (.loop (ZdV fn a.tmps ps assign body w.heap.size .ready none))) fun e W=>(∃v,e=.returned v)∧∃s p,s≠LoopState.busy∧W.heap[w.heap.size+1]? =some (.loop (ZdV fn a.tmps ps assign body w.heap.size s p))∧
   ((p=none∧Q .normal {a with defers:={target:=.collected w.heap.size,args:=#[]}::a.defers} (W.putObj (w.heap.size+1) (.loop (ZdV fn a.tmps ps assign body w.heap.size .exhausted p))))∨
    (∃c,p=some c∧c.wpIn Fence.wide n P Q {a with defers:={target:=.collected w.heap.size,args:=#[]}::a.defers} (W.putObj (w.heap.size+1) (.loop (ZdV fn a.tmps ps assign body w.heap.size .exhausted p)))))):
  (Code.rangeFunc g ps assign body).wpIn Fence.wide n P Q a w:=by
 have hro:Fence.wide.round=none:=rfl
 refine wpIn_rangeFunc ?_
 intro fn _
 rw[hro]
 have H:=h fn
 have EL:=run_enterLoop_outer (P:=P) (w:=w) fn a.tmps ps assign body
 obtain⟨W1,hW1⟩:∃W1,(w.alloc (.deferred (some []))).alloc (.loop (ZdV fn a.tmps ps assign body w.heap.size .ready none))=W1:=⟨_,rfl⟩
 rw[hW1] at H
 refine⟨w.heap.size+1,[{target:=.collected w.heap.size,args:=#[]}],W1,{target:=.fn (.func gf) lb,args:=#[.func (.yield (w.heap.size+1)) #[] #[]]},W1,gf,#[.func (.yield (w.heap.size+1)) #[] #[]]++lb,W1,?_,?_,?_,?_,?_,?_⟩
 ·rw[←hW1]
  exact EL
 ·simp only[resolve,hg]
  simp[go_sem]
 ·exact fun _ _=>trivial
 ·simp[invoke,go_sem,eg]
 ·exact fun _=>h1
 ·refine H.mono ?_
  rintro e W ⟨⟨v,rfl⟩,s,p,hs,hl,hq⟩
  have EN:=run_endLoop (P:=P) hl hs
  have e:({ZdV fn a.tmps ps assign body w.heap.size s p with state:=.exhausted}:Loop)=ZdV fn a.tmps ps assign body w.heap.size .exhausted p:=rfl
  rw[e] at EN
  obtain⟨W2,hW2⟩:∃W2,W.putObj (w.heap.size+1) (.loop (ZdV fn a.tmps ps assign body w.heap.size .exhausted p))=W2:=⟨_,rfl⟩
  rw[hW2] at EN hq
  refine⟨p,W2,EN,?_⟩
  rcases hq with⟨rfl,hq⟩|⟨c,rfl,hq⟩
  ·exact hq
  ·exact hq
attribute [local go_sem] Oper.semAt_some
theorem Zko (a:Option Addr)(n c:Nat)(w:World)(hn:n≤c)(hc:a=none→c=0):Calls Tryz.prog 67 #[.slice a n c] w fun e w'=>e=.returned (.slice a n n)∧w'=w:=by
 cases a with
 |none=>
  obtain rfl:=hc rfl
  obtain rfl:n=0:=by omega
  go_enter Tryz.func67,Tryz.ntmps67
  go_wp2
  go_returns
  trivial
 |some ad=>
  go_enter Tryz.func67,Tryz.ntmps67
  go_wp2
  go_returns
  trivial
theorem Zkp {W W':World}(e:Ext W W'):Zah (fun _=>False) W W':=⟨e.os,e.tape,e.output,e.size,fun b hb _=>e.block b hb⟩
def Zkq (sc:Scn)(l:Nat)(J:Ze7)(Jx:(Nat→Prop)→World→Prop):Prop:=∀(done:List (List ByteArray)) (x:List ByteArray) (W:World) (C:Nat→Prop) (a:Option Addr),
 J done C W→Zah sc.T sc.w2 W→(∀b,C b→b<W.heap.size∧sc.far b)→x.length=sc.n→Zai W a sc.n x→(∀b,(Value.slice a sc.n sc.n).ownBlock=some b→¬C b∧sc.w2.heap.size≤b)→(∀t∈sc.ts,t.vars.map (gt x)∈t.rows)→(∀u,u≤sc.n→sc.p u (x.take u)=true)→
 YieldAt Fence.wide 3 Tryz.prog l #[.slice a sc.n sc.n] W fun e W'=>∃C',((e=.returned (.bool true)∧J (done++[x]) C' W')∨(e=.returned (.bool false)∧Jx C' W'))∧Zah C W W'∧(∀b,C' b→C b∨W.heap.size≤b)∧∀b,C' b→b<W'.heap.size
theorem WSt.taken {sc:Scn}{J:(Nat→Prop)→World→Prop}{W:World}{row:List ByteArray}{L:Nat→List RLv}{F:Nat→Prop}(h:WSt sc J W row L F):∃C,J C W∧(∀b,C b→b<W.heap.size∧sc.far b)∧
  ∀(J2:(Nat→Prop)→World→Prop) (C':Nat→Prop) (W':World),J2 C' W'→Zah C W W'→(∀b,C' b→C b∨W.heap.size≤b)→(∀b,C' b→b<W'.heap.size)→Mv sc J2 W row L F W':=by
 obtain⟨x,S,C,h1,h2,h3,h4,h5,h6,h7⟩:=h.ex
 have hCF:∀b,C b→F b:=fun b hb=>(h7 b).2 (.inr (.inl hb))
 refine⟨C,h6,fun b hb=>⟨h.low b (hCF b hb),h.far b (hCF b hb)⟩,fun J2 C' W' j2 hb hf hl=>?_⟩
 have hfarC:∀b,C' b→sc.far b:=fun b hb=>by
  rcases hf b hb with h|h
  ·exact(h7 b |>.2 (.inr (.inl h))) |> ‹WSt sc J W row L F›.far b
  ·exact .inr (Nat.le_trans ‹WSt sc J W row L F›.env.size h)
 have hlow:=h.low
 have hfar:=h.far
 have henv:=h.env
 have hSlow:∀i b,S i b→b<W.heap.size:=fun i b hb=>hlow b ((h7 b).2 (.inr (.inr ⟨i,hb⟩)))
 have hgr:sc.gr<W.heap.size:=hlow _ ((h7 _).2 (.inl rfl))
 refine⟨fun b=>b=sc.gr∨C' b∨∃i,S i b,⟨ZbO henv hb (fun b hb=>hfar b (hCF b hb)),fun b hb=>?_,fun b hb'=>?_,x,S,C',⟨h1.1,h1.2.1,h1.2.2.but hb h5⟩,fun i t pc pt a1 a2 a3=>(h2 i t pc pt a1 a2 a3).buts hb (fun b hb hc=>(h4 i b hb).2 hc),h3,fun i b hb=>⟨(h4 i b hb).1,fun hc=>?_⟩,fun hc=>?_,j2,fun _=>Iff.rfl⟩,hb.mono fun b _ hc=>hCF b hc,fun b hb=>?_⟩
 ·rcases hb with hb|hb|⟨i,hb⟩
  ·exact hfar b ((h7 b).2 (.inl hb))
  ·exact hfarC b hb
  ·exact hfar b ((h7 b).2 (.inr (.inr ⟨i,hb⟩)))
 ·rcases hb' with rfl|hb'|⟨i,hb'⟩
  ·exact Nat.lt_of_lt_of_le hgr hb.size
  ·exact hl b hb'
  ·exact Nat.lt_of_lt_of_le (hSlow i b hb') hb.size
 ·rcases hf b hc with h|h
  ·exact(h4 i b hb).2 h
  ·have:=hSlow i b hb
   omega
 ·rcases hf _ hc with h|h
  ·exact h5 h
  ·omega
 ·rcases hb with hb|hb|⟨i,hb⟩
  ·exact .inl ((h7 b).2 (.inl hb))
  ·rcases hf b hb with h|h
   ·exact .inl (hCF b h)
   ·exact .inr h
  ·exact .inl ((h7 b).2 (.inr (.inr ⟨i,hb⟩)))
theorem Zmt (sc:Scn)(l:Nat)(J:Ze7)(Jx:(Nat→Prop)→World→Prop)(ST:Sta sc)(SB:Stb sc)(hJ:∀done,ZbR sc (J done))(hyv:sc.yv=.func (.yield l) #[] #[])(hY:Zkq sc l J Jx):Zjf sc J Jx sc.n 0:=by
 intro done row w L F hrow h hL hpre
 have HPRE:=zh hpre
 clear hpre
 obtain⟨x,x1,x2,x3⟩:=h.rowx
 have PS:=SB.pass sc.n w x (Nat.le_refl _) h.env x1 x3
 rw[hrow] at x2
 rw[x2] at PS
 obtain rfl:x=row:=by rw[←x2,←x1,List.take_length]
 have HLV:Hid (∀t∈sc.ts,t.vars.map (gt x)∈t.rows):=fun t ht=>((ST.jok t ht).has_all x).1 (hL.1 t ht)
 have HPS:=zh PS
 have HST:=zh ST
 have HSB:=zh SB
 have HJ:=zh hJ
 have HW:=zh h
 have HROW:=zh hrow
 have HY:=zh hY
 obtain⟨b,hb⟩:∃b,sc.p sc.n x=b:=⟨_,rfl⟩
 rw[hb] at HPS
 have HB:=zh hb
 clear PS ST SB hJ hL h hrow x1 x2 x3 hb hY
 refine(callsIn_wide (n:=4)).1 ?_
 refine callsIn_of_wp Tryz.func108 rfl trivial ?_ rfl
 simp only[Tryz.ntmps108,List.size_toArray,List.length_cons,List.length_nil,Nat.reduceAdd,Nat.reduceSub,Array.replicate_succ,Array.replicate_zero,List.push_toArray,List.append_toArray,List.nil_append,List.cons_append]
 cases b with
 |false=>
  gi_wp2_with (refine ⟨trivial,?_⟩;gi_at_call 136;refine(callsIn_wide.2 (HPS.out)).mono ?_;rintro e w1 ⟨rfl,e1⟩)
  go_returns
  refine .inl ⟨rfl,?_⟩
  rw[Zcv,if_neg (by rw[HB.out];simp),List.append_nil]
  exact HW.out.mv_ext (HJ.out _) e1
 |true=>
  gi_wp2_with fail
  refine⟨trivial,?_⟩
  refine(callsIn_wide.2 HPS.out).mono ?_
  rintro e w1 ⟨rfl,e1⟩
  have hS1:=HW.out.ext (HJ.out _) e1
  obtain⟨s0,s2,s3⟩:=HST.out.walk w1 hS1.env
  rw[hyv] at s3
  obtain⟨an,cn,hnm⟩:=HSB.out.names
  have hn0:=hnm w1 hS1.env
  have HS1:=zh hS1
  have HE1:=zh e1
  have HBD:Hid (Zcv sc.ts sc.p 0 sc.n x=[x]):=by
   show _=_
   rw[Zcv,if_pos HB.out]
  obtain⟨C,jc,hC,hnext⟩:=hS1.taken
  have HNEXT:=zh hnext
  obtain⟨x',y1,y2,y3⟩:=hS1.rowx
  obtain rfl:x'=x:=by rw[←y2,HROW.out,←y1,List.take_length]
  have hrow:Zai w1 (some ⟨sc.gr,0,none⟩) sc.n x':=by
   refine⟨by have:=HST.out.nn.1;unfold maxLen;omega,y1,fun i z hz=>⟨sc.gr,0,rfl,?_⟩⟩
   rw[Nat.mul_one,Nat.zero_add]
   exact(y3 i z hz).1
  have CL:Hid (∀W,Ext w1 W→Calls Tryz.prog 43 #[.slice (some ⟨sc.gr,0,none⟩) sc.n sc.cr] W fun e w'=>∃a' c',e=.returned (.slice a' sc.n c')∧w'.ownsRow W.heap.size 9 1 (.slice a' sc.n c') sc.n (x'.map Value.string)∧Ext W w'):=fun W hW=>(Ze4 x' _ sc.n sc.cr W (hrow.keep hW) (by have:=HST.out.nn.1;omega) (by intro h;cases h)).mono fun e w' ⟨a',c',r1,r2,_,r3⟩=>⟨a',c',r1,r2,r3⟩
  have YP:Hid (∀(W2:World) (a2:Option Addr) (c2 B:Nat),Ext w1 W2→w1.heap.size≤B→W2.ownsRow B 9 1 (.slice a2 sc.n c2) sc.n (x'.map Value.string)→YieldAt Fence.wide 3 Tryz.prog l #[.slice a2 sc.n sc.n] W2 fun e W'=>∃b:Bool,e=.returned (.bool b)∧Ze8 sc J Jx (done++[x']) x' L F w (.returned (.bool b)) W'):=fun W2 a2 c2 B hE hB ho=>by
   have hS2:=HS1.out.ext (HJ.out _) hE
   have hnew:∀b,(Value.slice a2 sc.n sc.n).ownBlock=some b→w1.heap.size≤b:=fun b hb=>by
    have e:(Value.slice a2 sc.n c2).ownBlock=some b:=by cases a2 <;> exact hb
    exact Nat.le_trans hB (ho.lt b e).1
   obtain⟨fn,tmps,assign,body,hy,hR⟩:=HY.out done x' W2 C a2 (HJ.out _ _ _ _ _ jc (Zkp hE) (fun _ h=>h.elim)) hS2.env (fun b hb=>⟨Nat.lt_of_lt_of_le (hC b hb).1 hE.size,(hC b hb).2⟩) y1 (ZaL ho (by have:=HST.out.nn.1;unfold maxLen;omega)) (fun b hb=>⟨fun hc=>by have:=(hC b hc).1;have:=hnew b hb;omega,Nat.le_trans HS1.out.env.size (hnew b hb)⟩) HLV.out (fun u hu=>by
    rcases Nat.lt_or_ge u sc.n with hlt|hge
    ·exact HPRE.out u hlt
    ·rw[List.take_of_length_le (by omega),show u=sc.n by omega]
     exact HB.out)
   refine⟨fn,tmps,assign,body,hy,hR.mono ?_⟩
   rintro e W' ⟨C',h1,h2,h3,h4⟩
   have h5:∀J2,J2 C' W'→Mv sc J2 w x' L F W':=fun J2 j2=>Mv.trans ((Zah.refl _ _).ext HE1.out) (fun _ h=>.inl h) (HNEXT.out J2 C' W' j2 (((Zah.refl _ w1).ext hE).trans h2) (fun b hb=>by
    rcases h3 b hb with h|h
    ·exact .inl h
    ·exact .inr (Nat.le_trans hE.size h)) h4)
   rcases h1 with⟨rfl,j2⟩|⟨rfl,j2⟩
   ·exact⟨true,rfl,.inl ⟨rfl,h5 _ j2⟩⟩
   ·exact⟨false,rfl,.inr ⟨rfl,h5 _ j2⟩⟩
  have CP:Hid (∀(a2:Option Addr) (c2 B:Nat) (W2:World),W2.ownsRow B 9 1 (.slice a2 sc.n c2) sc.n (x'.map Value.string)→Calls Tryz.prog 67 #[.slice a2 sc.n c2] W2 fun e w'=>e=.returned (.slice a2 sc.n sc.n)∧w'=W2):=fun a2 c2 B W2 ho=>by
   obtain⟨h1,h2⟩:=ZaF ho
   exact Zko a2 sc.n c2 W2 h1 (fun e=>(h2 e).2)
  clear hnm hS1 hnext y1 y2 y3 e1 hrow
  have mixed:Tryz.prog.follows .mixedOrders=true:=by kernel_rfl
  gi_wp2
  gi_region_with_o (first
   |(refine ⟨trivial,?_⟩;gi_at_call 43;refine(callsIn_wide.2 (CL.out _ (by go_grown))).mono ?_;rintro e w2 ⟨a2,c2,rfl,o2,E2⟩;have E3:Ext w1 w2:=Zaa (by go_grown) E2;have z3:=Zac E3 s3;have OW:=zh o2;have EE:=zh E3;clear o2 E2 E3)
   |(refine ⟨trivial,?_⟩;gi_at_call 67;refine(callsIn_wide.2 (CP.out _ _ _ _ (by first|exact OW.out|exact own_drew OW.out))).mono ?_;rintro e w3 ⟨rfl,hw3⟩;obtain rfl:=hw3.symm;obtain⟨fn,tmps,assign,body,hy,hR⟩:=YP.out _ _ _ _ EE.out (by simp) OW.out)
   |(refine hR.mono ?_;rintro e w5 ⟨b5,rfl,hp5⟩))
  all_goals
   gi_wp2
   go_returns
   rw[HBD.out]
   exact hp5
theorem Zrb (sc:Scn)(l:Nat)(J:Ze7)(Jx:(Nat→Prop)→World→Prop)(ST:Sta sc)(SB:Stb sc)(hJ:∀done,ZbR sc (J done))(hJx:ZbR sc Jx)(hyv:sc.yv=.func (.yield l) #[] #[])(hY:Zkq sc l J Jx):∀k v,v+k=sc.n→Zjf sc J Jx v k
 |0,v,h=>by
  obtain rfl:v=sc.n:=by omega
  exact Zmt sc l J Jx ST SB hJ hyv hY
 |k+1,v,h=>Zkn sc J Jx ST SB hJ hJx v k h (Zrb sc l J Jx ST SB hJ hJx hyv hY k (v+1) (by omega))
open ChangeShapes WideShapes ChangeAt RowKit
open K (ZaG Zda ZaQ Zaq Zbl ZaR Zbw Zcm)
def Zak (k:Int)(out:List ByteArray)(t:ZaG):List ByteArray:=if k=1∧t.kind=1∧t.text∉out then out++[t.text] else out
def Zb4 (out:List ByteArray)(l:K.Lit):List ByteArray:=l.atom.terms.foldl (Zak l.kind) out
def Zad (r:ZaQ):List ByteArray:=r.body.foldl Zb4 []
theorem Zkr (k:Int)(out:List ByteArray)(t:ZaG):out.length≤(Zak k out t).length:=by
 unfold Zak
 split <;> simp
theorem Zln (k:Int)(ts:List ZaG):∀out:List ByteArray,out.length≤(ts.foldl (Zak k) out).length:=by
 induction ts with
 |nil=>intro out;exact Nat.le_refl _
 |cons t ts ih=>intro out;exact Nat.le_trans (Zkr k out t) (ih _)
theorem Znt (ls:List K.Lit):∀out:List ByteArray,out.length≤(ls.foldl Zb4 out).length:=by
 induction ls with
 |nil=>intro out;exact Nat.le_refl _
 |cons l ls ih=>intro out;exact Nat.le_trans (Zln l.kind l.atom.terms out) (ih _)
theorem Zjh {r:ZaQ}{k j:Nat}{l:K.Lit}(h:r.body[k]? =some l):((l.atom.terms.take j).foldl (Zak l.kind) ((r.body.take k).foldl Zb4 [])).length≤(Zad r).length:=by
 have e:Zad r=(r.body.drop (k+1)).foldl Zb4 ((l.atom.terms.drop j).foldl (Zak l.kind) ((l.atom.terms.take j).foldl (Zak l.kind) ((r.body.take k).foldl Zb4 []))):=by
  rw[←List.foldl_append,List.take_append_drop]
  show _=(r.body.drop (k+1)).foldl Zb4 (Zb4 _ l)
  rw[←List.foldl_cons,←Zbn h,←List.foldl_append,List.take_append_drop]
  rfl
 rw[e]
 exact Nat.le_trans (Zln _ _ _) (Znt _ _)
def Zin (xs:List ByteArray)(w:World)(e:Ending)(w':World):Prop:=∃a c,e=.returned (.slice a xs.length c)∧Zai w' a xs.length xs∧(a=none→xs.length=0∧c=0)∧(∀b,(Value.slice a xs.length c).ownBlock=some b→w.heap.size≤b∧b<w'.heap.size)∧Ext w w'
def ZdM (w wj:World)(out:List ByteArray)(v:Value):Prop:=wj.ownsRow w.heap.size 9 1 v out.length (out.map Value.string)∧Ext w wj
theorem ZdM.ext {w W W':World}{out:List ByteArray}{v:Value}(h:ZdM w W out v)(e:Ext W W'):ZdM w W' out v:=⟨Zar h.1 e,Zaa h.2 e⟩
theorem ZdM.strs {w W:World}{out:List ByteArray}{a:Option Addr}{c:Nat}(h:ZdM w W out (.slice a out.length c)):Zai W a out.length out:=ZaL h.1 (Za4 h.1).1
theorem Znu (r:ZaQ)(ah:Option Addr)(nh ch:Nat)(ab:Option Addr)(nb cb:Nat)(w:World)(hr:ZaR w r ah nh ch ab nb cb)(hv:(Zad r).length≤1000000):
  Calls Tryz.prog 57 #[.agg #[.string r.head.pred,.slice ah nh ch,.slice ab nb cb]] w (Zin (Zad r) w):=by
 obtain⟨i0,hi,hz0,hz1,hz2⟩:=info_parts ZbI
 have HR:=zh hr
 have HLB:=zh hr.body.2.1
 have HV:=zh hv
 have hn:=hr.body.1
 clear hr hv
 have E0:Hid (∀o,Ext w (w.alloc o)):=fun o=>Zab zbr o
 go_enter Tryz.func57,Tryz.ntmps57
 go_wp2
 go_loopw [3,11] (fun v u wj=>∃k:Nat,k≤nb∧u=.int .i64 k∧ZdM w wj ((r.body.take k).foldl Zb4 []) v) (fun _ u _=>nb-(intOf u).toNat)
 case atStart=>exact⟨0,by omega,rfl,World.ownsRow_nil _ _ _ _,E0.out _⟩
 case round=>
  obtain⟨k,hk,rfl,hst⟩:=hrel
  have ST:=zh hst
  clear hst
  by_cases hlt:k<nb
  ·have hki:(k:Int)<(nb:Int):=by omega
   obtain⟨l,bl,off,hx,rfl,al,nl,cl,h0,h1,h2,h3,h4,h5,h6,h7,h8,h9,h10,h11,h12⟩:=(HR.out.body.keep ST.out.2).2.at hlt
   have HX:=zh hx
   have HTK:Hid (r.body.take (k+1)=r.body.take k++[l]):=ZaA hx
   have HTM:Hid (Zaq w al nl l.atom.terms):=by
    obtain⟨l',bl',off',hx',e',al',nl',cl',_,_,q2,_,_,_,_,_,q8,_⟩:=HR.out.body.2.at hlt
    rw[hx] at hx'
    cases hx'
    cases e'
    have:=Zac ST.out.2 q2
    rw[h2] at this
    cases this
    exact q8
   have HLT:=zh h8.2.1
   have hnl:=h8.1
   clear hx h8 h9 h10 h11 h12
   obtain⟨b1,e1⟩:∃b,(l.kind==1)=b:=⟨_,rfl⟩
   have K1:Hid ((l.kind=1)↔b1=true):=by show _↔_;rw[←e1];simp
   go_wp2
   obtain⟨p5,hp5⟩:∃p5,p5=wr.heap.size:=⟨_,rfl⟩
   rw[←hp5]
   have EL:Hid (∀o,ZdM w (wr.alloc o) ((r.body.take k).foldl Zb4 []) u3):=fun o=>ST.out.ext (Zab zbr o)
   have CK:Hid ((wr.alloc (.cells #[.int .i64 l.kind,.string l.atom.pred,.slice al nl cl,.int .i64 l.op,.int .i64 l.left.kind,.string l.left.text,.int .i64 l.right.kind,.string l.right.text] 66)).cell? ⟨p5,0,none⟩=some (.int .i64 l.kind)):=by show _=_;rw[hp5];go_simp
   have HP5:Hid (p5=wr.heap.size):=hp5
   clear hp5 h0 h1 h2 h3 h4 h5 h6 h7
   obtain⟨out0,hout0⟩:∃out0,(r.body.take k).foldl Zb4 []=out0:=⟨_,rfl⟩
   have HO0:=zh hout0
   rw[hout0] at EL
   have HNX:Hid (∀o:List ByteArray,o=l.atom.terms.foldl (Zak l.kind) out0→(r.body.take (k+1)).foldl Zb4 []=o):=fun o ho=>by rw[HTK.out,List.foldl_append,HO0.out,ho];rfl
   have HLE:Hid (∀j,((l.atom.terms.take j).foldl (Zak l.kind) out0).length≤1000000):=fun j=>by
    have:=Zjh (j:=j) HX.out
    rw[HO0.out] at this
    exact Nat.le_trans this HV.out
   clear hout0
   go_loopw [3,19] (fun v u wj=>∃j:Nat,j≤nl∧u=.int .i64 j∧ZdM w wj ((l.atom.terms.take j).foldl (Zak l.kind) out0) v∧wj.cell? ⟨p5,0,none⟩=some (.int .i64 l.kind)∧v.ownBlock≠some p5) (fun _ u _=>nl-(intOf u).toNat)
   case atStart=>exact⟨0,by omega,rfl,EL.out _,CK.out,fun e=>by have:=(ST.out.1.lt _ e).2;have:=HP5.out;omega⟩
   case round=>
    obtain⟨j,hj,rfl,hst,ck,hne⟩:=hrel
    have HNE:=zh hne
    clear hne
    obtain⟨out,hout⟩:∃out,(l.atom.terms.take j).foldl (Zak l.kind) out0=out:=⟨_,rfl⟩
    rw[hout] at hst
    have HOUT:=zh hout
    obtain⟨a3,c3,rfl,_⟩:=Zag hst.1
    have SJ:=zh hst
    clear hst hout
    by_cases hlj:j<nl
    ·have hji:(j:Int)<(nl:Int):=by omega
     obtain⟨t,bt,ot,hx,rfl,hc1,hc2,hc3⟩:=(HTM.out.keep SJ.out.2).2.at hlj
     have HTJ:Hid ((l.atom.terms.take (j+1)).foldl (Zak l.kind) out0=Zak l.kind out t):=by
      show _=_
      rw[ZaA hx,List.foldl_append,HOUT.out]
      rfl
     have hol:out.length≤1000000:=by
      have:=HLE.out j
      rwa [HOUT.out] at this
     clear hx
     obtain⟨b2,e2⟩:∃b,(t.kind==1)=b:=⟨_,rfl⟩
     have K2:Hid ((t.kind=1)↔b2=true):=by show _↔_;rw[←e2];simp
     have ck2:∀o,(wr.alloc o).cell? ⟨p5,0,none⟩=some (.int .i64 l.kind):=fun o=>Zac (Zab zbr o) ck
     have SA:Hid (∀o,ZdM w (wr.alloc o) out (.slice a3 out.length c3)):=fun o=>SJ.out.ext (Zab zbr o)
     have CN:Hid (∀o,Calls Tryz.prog 59 #[.slice a3 out.length c3,.string t.text] (wr.alloc o) fun e w'=>e=.returned (.bool (decide (0≤Zgu out t.text)))∧w'=wr.alloc o):=fun o=>ZgX out t.text a3 _ c3 _ (SA.out o).strs
     cases b1 with
     |false=>
      have HQ:Hid (Zak l.kind out t=out):=by
       show _=_
       unfold Zak
       rw[if_neg (fun h=>absurd (K1.out.1 h.1) (by simp))]
      go_wp2
      go_roundw
      case rel=>exact⟨j+1,by omega,by go_num,by rw[HTJ.out,HQ.out];exact SA.out _,ck2 _,HNE.out⟩
      case measure=>simp[intOf];omega
     |true=>
      cases b2 with
      |false=>
       have HQ:Hid (Zak l.kind out t=out):=by
        show _=_
        unfold Zak
        rw[if_neg (fun h=>absurd (K2.out.1 h.2.1) (by simp))]
       go_wp2
       go_roundw
       case rel=>exact⟨j+1,by omega,by go_num,by rw[HTJ.out,HQ.out];exact SA.out _,ck2 _,HNE.out⟩
       case measure=>simp[intOf];omega
      |true=>
       obtain⟨b3,e3⟩:∃b,decide (0≤Zgu out t.text)=b:=⟨_,rfl⟩
       rw[e3] at CN
       have K3:Hid (t.text∈out↔b3=true):=by show _↔_;rw[←e3,decide_eq_true_eq,ZeM]
       clear e3
       cases b3 with
       |true=>
        have HQ:Hid (Zak l.kind out t=out):=by
         show _=_
         unfold Zak
         rw[if_neg (fun h=>h.2.2 (K3.out.2 rfl))]
        go_wp2_with (go_at_call 59;(with_reducible refine(CN.out _).mono ?_);rintro e w2 ⟨rfl,hw2⟩;obtain rfl:=hw2.symm)
        go_roundw
        case rel=>exact⟨j+1,by omega,by go_num,by rw[HTJ.out,HQ.out];exact SA.out _,ck2 _,HNE.out⟩
        case measure=>simp[intOf];omega
       |false=>
        have HQ:Hid (Zak l.kind out t=out++[t.text]):=by
         show _=_
         unfold Zak
         rw[if_pos ⟨K1.out.2 rfl,K2.out.2 rfl,fun h=>absurd (K3.out.1 h) (by simp)⟩]
        have HZ:Hid (∀o o',w.heap.size≤((wr.alloc o).alloc o').heap.size):=fun o o'=>(Zab (Zab SJ.out.2 o) o').size
        go_wp2_with (first
         |(go_at_call 59;(with_reducible refine(CN.out _).mono ?_);rintro e w2 ⟨rfl,hw2⟩;obtain rfl:=hw2.symm)
         |(at_builtin;go_loud (refine wpList_append_lies _ rfl _ _ 54 rfl w.heap.size 9 i0 (.string ⟨#[]⟩) 1 16 Tryz.underlying54 hi hz0 hz1 hz2 rfl (by decide) _ out.length (out.map Value.string) rfl (((SA.out _).ext (Zab zbr _)).1) ⟨wr.heap.size+1,0,none⟩ 1 1 [.string t.text] rfl rfl (by have:=Zgt (wr.alloc (.cells #[.int .i64 t.kind,.string t.text] 64)) (.string t.text) 9;simpa using this) (fun x hx=>by cases List.mem_singleton.1 hx;rfl) (Nat.zero_lt_one) (by unfold maxLen;omega) (by omega) (HZ.out _ _) _ rfl ?_);intro g7 p7 w7 own7 q7 hat7 hlt7))
        go_roundw
        case rel=>
         have hp5:p5<wr.heap.size:=World.block_lt_of_cell? wr ⟨p5,0,none⟩ ck
         refine⟨j+1,by omega,by go_num,?_,?_,?_⟩
         ·rw[HTJ.out,HQ.out]
          refine⟨by rw[List.length_append,List.map_append];exact own7,?_⟩
          exact Zaz (((SA.out _).ext (Zab zbr _)).2) q7 (fun g hg=>(SJ.out.1.lt g hg).1)
         ·rw[←ck]
          exact World.cell?_of_block ((q7.block p5 (by simp;omega) (fun e=>HNE.out e.symm)).trans ((Zab (Zab (Below.refl _ wr) _) _).block p5 hp5))
         ·intro e
          cases e
          rcases hat7 with h|h
          ·exact HNE.out h
          ·rw[h] at hp5
           simp at hp5
           try omega
        case measure=>simp[intOf];omega
    ·obtain rfl:j=nl:=by omega
     have hge:¬(j:Int)<(j:Int):=by omega
     have HALL:Hid (l.atom.terms.take j=l.atom.terms):=List.take_of_length_le (by have:=HLT.out;omega)
     go_wp2
     go_roundw
     case rel=>exact⟨k+1,by omega,by go_num,by rw[HNX.out out (by rw[←HOUT.out,HALL.out])];exact SJ.out⟩
     case measure=>simp[intOf];omega
  ·obtain rfl:k=nb:=by omega
   have hge:¬(k:Int)<(k:Int):=by omega
   have HALL:Hid ((r.body.take k).foldl Zb4 []=Zad r):=by
    show _=_
    rw[List.take_of_length_le (by have:=HLB.out;omega)]
    rfl
   rw[HALL.out] at ST
   obtain⟨a3,c3,rfl,hc3⟩:=Zag ST.out.1
   have CL:=zh (Zko a3 (Zad r).length c3 wr hc3 (fun h=>(ZaF ST.out.1).2 h |>.2))
   go_wp2_with (go_at_call 67;(with_reducible refine CL.out.mono ?_);rintro e w2 ⟨rfl,hw2⟩;obtain rfl:=hw2.symm)
   go_returns
   refine⟨a3,_,rfl,ST.out.strs,fun h=>?_,fun b hb=>ST.out.1.lt b (by cases a3 <;> first|exact hb|cases hb),ST.out.2⟩
   have:=(ZaF ST.out.1).2 h
   exact⟨this.1,this.1⟩
def Zbz (xs:List ByteArray)(t:ZaG)(blank:Bool):Bool:=if t.kind=2 then blank else if t.kind=3∨t.kind=4 then true else decide (t.text∈xs)
theorem Ztz (xs:List ByteArray)(t:ZaG)(blank:Bool)(bx:Nat)(a:Option Addr)(n c:Nat)(w:World)(hb:w.cell? ⟨bx,0,none⟩=some (.slice a n c))(hs:Zai w a n xs):
  Calls Tryz.prog 58 #[Zd8 t,.bool blank,.pointer (some ⟨bx,0,none⟩)] w fun e w'=>e=.returned (.bool (Zbz xs t blank))∧Ext w w':=by
 have HS:=zh hs
 obtain⟨b2,e2⟩:∃b,(t.kind==2)=b:=⟨_,rfl⟩
 obtain⟨b3,e3⟩:∃b,(t.kind==3)=b:=⟨_,rfl⟩
 obtain⟨b4,e4⟩:∃b,(t.kind==4)=b:=⟨_,rfl⟩
 have K2:Hid ((t.kind=2)↔b2=true):=by show _↔_;rw[←e2];simp
 have K3:Hid ((t.kind=3)↔b3=true):=by show _↔_;rw[←e3];simp
 have K4:Hid ((t.kind=4)↔b4=true):=by show _↔_;rw[←e4];simp
 have E1:Hid (∀o,Ext w (w.alloc o)):=fun o=>Zab zbr o
 have hb2:∀o,(w.alloc o).cell? ⟨bx,0,none⟩=some (.slice a n c):=fun o=>Zac (E1.out o) hb
 have CN:Hid (∀o,Calls Tryz.prog 59 #[.slice a n c,.string t.text] (w.alloc o) fun e w'=>e=.returned (.bool (decide (0≤Zgu xs t.text)))∧w'=w.alloc o):=fun o=>ZgX xs t.text a _ c _ (HS.out.keep (E1.out o))
 have fin:Hid (Zbz xs t blank=if b2=true then blank else if b3=true∨b4=true then true else decide (0≤Zgu xs t.text)):=by
  show _=_
  have q:decide (0≤Zgu xs t.text)=decide (t.text∈xs):=by simp only[ZeM]
  rw[q]
  unfold Zbz
  simp only[K2.out,K3.out,K4.out]
 clear hs hb
 cases b2
 ·cases b3
  ·cases b4
   ·go_enter Tryz.func58,Tryz.ntmps58
    go_wp2_with (go_at_call 59;(with_reducible refine(CN.out _).mono ?_);rintro e w2 ⟨rfl,hw2⟩;obtain rfl:=hw2.symm)
    go_ret
    exact⟨ZaS (by rw[fin.out];simp),E1.out _⟩
   ·go_enter Tryz.func58,Tryz.ntmps58
    go_wp2
    go_ret
    exact⟨ZaS (by rw[fin.out];simp),E1.out _⟩
  ·go_enter Tryz.func58,Tryz.ntmps58
   go_wp2
   go_ret
   exact⟨ZaS (by rw[fin.out];simp),E1.out _⟩
 ·go_enter Tryz.func58,Tryz.ntmps58
  go_wp2
  go_ret
  exact⟨ZaS (by rw[fin.out];simp),E1.out _⟩
def ZdW (xs:List ByteArray)(l:K.Lit):Bool:=decide (l.kind=3)&&(!Zbz xs l.left false||!Zbz xs l.right false)
def ZcZ (xs:List ByteArray)(l:K.Lit)(t:ZaG):Bool:=decide (l.kind=2)&&!Zbz xs t true
def Zcr (xs:List ByteArray)(l:K.Lit):Bool:=ZdW xs l||l.atom.terms.any (ZcZ xs l)
def ZcP (xs:List ByteArray)(t:ZaG):Bool:=!Zbz xs t false
def Zap (r:ZaQ):Int:=if Zb7 r.head.terms=false then 2 else if r.body.any (fun l=>!Zbf l)=true then 2 else if r.head.terms.any (ZcP (Zad r))=true then 111 else if r.body.any (Zcr (Zad r))=true then 111 else 0
def Zb5 (r:ZaQ)(w:World)(e:Ending)(w':World):Prop:=e=.returned (.int .i64 (Zap r))∧Ext w w'
theorem Zio (r:ZaQ)(ah:Option Addr)(nh ch:Nat)(ab:Option Addr)(nb cb:Nat)(w:World)(hr:ZaR w r ah nh ch ab nb cb)(hv:(Zad r).length≤1000000):
  Calls Tryz.prog 23 #[.agg #[.string r.head.pred,.slice ah nh ch,.slice ab nb cb]] w (Zb5 r w):=by
 have HR:=zh hr
 have HLB:=zh hr.body.2.1
 have HLH:=zh hr.terms.2.1
 have HV:=zh hv
 have hn:=hr.body.1
 have hn2:=hr.terms.1
 clear hr hv
 have E0:Hid (∀o,Ext w (w.alloc o)):=fun o=>Zab zbr o
 obtain⟨bh,hbh⟩:∃b,Zb7 r.head.terms=b:=⟨_,rfl⟩
 have HBH:=zh hbh
 have HD:Hid (∀o,Calls Tryz.prog 55 #[.slice ah nh ch] (w.alloc o) fun e w'=>e=.returned (.bool (Zb7 r.head.terms))∧Ext (w.alloc o) w'):=fun o=>ZtE r.head.terms ah nh ch _ (HR.out.terms.keep (E0.out o))
 rw[hbh] at HD
 clear hbh
 cases bh with
 |false=>
  go_enter Tryz.func23,Tryz.ntmps23
  go_wp2_with (go_at_call 55;(with_reducible refine(HD.out _).mono ?_);rintro e w2 ⟨rfl,hb2⟩)
  go_ret
  exact⟨ZcN (b:=Zap r) (by unfold Zap;rw[if_pos HBH.out]),Zaa (E0.out _) hb2⟩
 |true=>
  go_enter Tryz.func23,Tryz.ntmps23
  go_wp2_with (go_at_call 55;(with_reducible refine(HD.out _).mono ?_);rintro e w2 ⟨rfl,hb2⟩;have c0:=Zac hb2 (show (w.alloc (.cells #[.string r.head.pred,.slice ah nh ch,.slice ab nb cb] 27)).cell? ⟨w.heap.size,0,none⟩=some (.string r.head.pred) by go_simp);have c1:=Zac hb2 (show (w.alloc (.cells #[.string r.head.pred,.slice ah nh ch,.slice ab nb cb] 27)).cell? ⟨w.heap.size,1,none⟩=some (.slice ah nh ch) by go_simp);have c2:=Zac hb2 (show (w.alloc (.cells #[.string r.head.pred,.slice ah nh ch,.slice ab nb cb] 27)).cell? ⟨w.heap.size,2,none⟩=some (.slice ab nb cb) by go_simp))
  have EX2:Hid (Ext w w2):=Zaa (E0.out _) hb2
  obtain⟨p1,hp1⟩:∃p1,p1=w.heap.size:=⟨_,rfl⟩
  rw[←hp1] at c0 c1 c2 ⊢
  clear hb2 hp1
  have C0:=zh c0
  have C1:=zh c1
  have C2:=zh c2
  go_loopw [21] (fun u wj=>∃k:Nat,k≤nb∧u=.int .i64 k∧(r.body.take k).any (fun l=>!Zbf l)=false∧Ext w2 wj) (fun u _=>nb-(intOf u).toNat)
  case atStart=>exact⟨0,by omega,rfl,by simp,Below.refl _ _⟩
  case round=>
   obtain⟨k,hk,rfl,hq,hE⟩:=hrel
   have HQ:=zh hq
   have HE:=zh hE
   have HEW:Hid (Ext w wr):=Zaa EX2.out hE
   clear hq hE
   by_cases hlt:k<nb
   ·have hki:(k:Int)<(nb:Int):=by omega
    obtain⟨l,bl,off,hx,rfl,al,nl,cl,h0,h1,h2,h3,h4,h5,h6,h7,h8,h9,h10,h11,h12⟩:=(HR.out.body.keep HEW.out).2.at hlt
    have HX:=zh hx
    have HTK:Hid (r.body.take (k+1)=r.body.take k++[l]):=ZaA hx
    have LT:Hid (∀o,Calls Tryz.prog 56 #[ZtF l al nl cl] (wr.alloc o) fun e w'=>e=.returned (.bool (Zbf l))∧Ext (wr.alloc o) w'):=fun o=>ZnI l al nl cl _ (h8.keep (Zab zbr o)) h11 h12
    have HEA:Hid (∀o,Ext w2 (wr.alloc o)):=fun o=>Zaa HE.out (Zab zbr o)
    clear h8 h9 h10 h11 h12 hx
    obtain⟨bq,hbq⟩:∃b,Zbf l=b:=⟨_,rfl⟩
    have HBQ:=zh hbq
    rw[hbq] at LT
    clear hbq
    cases bq with
    |false=>
     go_wp2_with (go_at_call 56;(with_reducible refine(LT.out _).mono ?_);rintro e w3 ⟨rfl,hb3⟩)
     go_ret
     refine⟨ZcN (b:=Zap r) ?_,Zaa EX2.out (Zaa (HEA.out _) hb3)⟩
     have:r.body.any (fun l=>!Zbf l)=true:=List.any_eq_true.2 ⟨l,zmg HX.out,by rw[HBQ.out];rfl⟩
     unfold Zap
     rw[HBH.out,if_neg (by simp),if_pos this]
    |true=>
     go_wp2_with (go_at_call 56;(with_reducible refine(LT.out _).mono ?_);rintro e w3 ⟨rfl,hb3⟩)
     go_roundw
     case rel=>exact⟨k+1,by omega,by go_num,by rw[HTK.out,List.any_append,HQ.out];simp[HBQ.out],Zaa (HEA.out _) hb3⟩
     case measure=>simp[intOf];omega
   ·obtain rfl:k=nb:=by omega
    have hge:¬(k:Int)<(k:Int):=by omega
    have HALL:Hid (r.body.any (fun l=>!Zbf l)=false):=by
     have:=HQ.out
     rwa [List.take_of_length_le (by have:=HLB.out;omega)] at this
    have d0:=Zac HE.out C0.out
    have d1:=Zac HE.out C1.out
    have d2:=Zac HE.out C2.out
    have VR:=zh (Znu r ah nh ch ab k cb wr (HR.out.keep HEW.out) HV.out)
    go_wp2_with (go_at_call 57;(with_reducible refine VR.out.mono ?_);rintro e w3 ⟨av,cv,rfl,sv,nv,ov,hb3⟩;have d1':=Zac (Zab hb3 (.cells #[.slice av (Zad r).length cv] 54)) d1)
    obtain⟨bx,hbx⟩:∃bx,w3.heap.size=bx:=⟨_,rfl⟩
    have CB:Hid ((w3.alloc (.cells #[.slice av (Zad r).length cv] 54)).cell? ⟨bx,0,none⟩=some (.slice av (Zad r).length cv)):=by show _=_;rw[←hbx];go_simp
    rw[hbx]
    have E4:Hid (Ext wr (w3.alloc (.cells #[.slice av (Zad r).length cv] 54))):=Zab hb3 _
    have SV:=zh (sv.keep (Zab (Below.refl _ w3) (.cells #[.slice av (Zad r).length cv] 54)))
    generalize w3.alloc (.cells #[.slice av (Zad r).length cv] 54)=W4 at CB E4 SV d1' ⊢
    have EW4:Hid (Ext w W4):=Zaa HEW.out E4.out
    have D2:Hid (W4.cell? ⟨p1,2,none⟩=some (.slice ab k cb)):=Zac E4.out d2
    clear hbx hb3 ov nv sv d0 d1 d2 VR HD
    have CS:Hid (∀t bl W,Ext W4 W→Calls Tryz.prog 58 #[Zd8 t,.bool bl,.pointer (some ⟨bx,0,none⟩)] W fun e w'=>e=.returned (.bool (Zbz (Zad r) t bl))∧Ext W w'):=fun t bl W hW=>Ztz (Zad r) t bl bx av _ cv W (Zac hW CB.out) (SV.out.keep hW)
    go_loopw [36] (fun u wj=>∃k:Nat,k≤nh∧u=.int .i64 k∧(r.head.terms.take k).any (ZcP (Zad r))=false∧Ext W4 wj) (fun u _=>nh-(intOf u).toNat)
    case atStart=>exact⟨0,by omega,rfl,by simp,Below.refl _ _⟩
    case round=>
     obtain⟨j,hj,rfl,hq3,hE3⟩:=hrel
     have HQ3:=zh hq3
     have HE3:=zh hE3
     have HEW3:Hid (Ext w wr):=Zaa EW4.out hE3
     clear hq3 hE3
     by_cases hlj:j<nh
     ·have hji:(j:Int)<(nh:Int):=by omega
      obtain⟨t,bt,ot,hx,rfl,hc1,hc2,hc3⟩:=(HR.out.terms.keep HEW3.out).2.at hlj
      have HXT:=zh hx
      have HTJ:Hid (r.head.terms.take (j+1)=r.head.terms.take j++[t]):=ZaA hx
      clear hx
      have HEA:Hid (∀o,Ext W4 (wr.alloc o)):=fun o=>Zaa HE3.out (Zab zbr o)
      have ST:Hid (∀o,Calls Tryz.prog 58 #[Zd8 t,.bool false,.pointer (some ⟨bx,0,none⟩)] (wr.alloc o) fun e w'=>e=.returned (.bool (Zbz (Zad r) t false))∧Ext (wr.alloc o) w'):=fun o=>CS.out t false _ (HEA.out o)
      obtain⟨bs,hbs⟩:∃b,Zbz (Zad r) t false=b:=⟨_,rfl⟩
      have HBS:=zh hbs
      rw[hbs] at ST
      clear hbs
      cases bs with
      |false=>
       go_wp2_with (go_at_call 58;(with_reducible refine(ST.out _).mono ?_);rintro e w5 ⟨rfl,hb5⟩)
       go_ret
       refine⟨ZcN (b:=Zap r) ?_,Zaa EW4.out (Zaa (HEA.out _) hb5)⟩
       have:r.head.terms.any (ZcP (Zad r))=true:=List.any_eq_true.2 ⟨t,zmg HXT.out,by unfold ZcP;rw[HBS.out];rfl⟩
       unfold Zap
       rw[HBH.out,if_neg (by simp),HALL.out,if_neg (by simp),if_pos this]
      |true=>
       go_wp2_with (go_at_call 58;(with_reducible refine(ST.out _).mono ?_);rintro e w5 ⟨rfl,hb5⟩)
       go_roundw
       case rel=>exact⟨j+1,by omega,by go_num,by rw[HTJ.out,List.any_append,HQ3.out];simp[ZcP,HBS.out],Zaa (HEA.out _) hb5⟩
       case measure=>simp[intOf];omega
     ·obtain rfl:j=nh:=by omega
      have hgj:¬(j:Int)<(j:Int):=by omega
      have HALL3:Hid (r.head.terms.any (ZcP (Zad r))=false):=by
       have:=HQ3.out
       rwa [List.take_of_length_le (by have:=HLH.out;omega)] at this
      have d3:=Zac HE3.out D2.out
      go_wp2
      go_loopw [48] (fun u wj=>∃k':Nat,k'≤k∧u=.int .i64 k'∧(r.body.take k').any (Zcr (Zad r))=false∧Ext W4 wj) (fun u _=>k-(intOf u).toNat)
      case atStart=>exact⟨0,by omega,rfl,by simp,HE3.out⟩
      case round=>
       obtain⟨m,hm,rfl,hq4,hE4⟩:=hrel
       have HQ4:=zh hq4
       have HE4:=zh hE4
       have HEW4:Hid (Ext w wr):=Zaa EW4.out hE4
       clear hq4 hE4
       by_cases hlm:m<k
       ·have hmi:(m:Int)<(k:Int):=by omega
        obtain⟨l,bl,ol,hx,rfl,al,nl,cl,h0,h1,h2,h3,h4,h5,h6,h7,h8,h9,h10,h11,h12⟩:=(HR.out.body.keep HEW4.out).2.at hlm
        have HXL:=zh hx
        have HTM:Hid (r.body.take (m+1)=r.body.take m++[l]):=ZaA hx
        have HLT:=zh h8.2.1
        have HTS:Hid (Zaq wr al nl l.atom.terms):=h8
        have hnl:=h8.1
        have HEA:Hid (∀o,Ext wr (wr.alloc o)):=fun o=>Zab zbr o
        have CS4:Hid (∀t bl W,Ext wr W→Calls Tryz.prog 58 #[Zd8 t,.bool bl,.pointer (some ⟨bx,0,none⟩)] W fun e w'=>e=.returned (.bool (Zbz (Zad r) t bl))∧Ext W w'):=fun t bl W hW=>CS.out t bl W (Zaa HE4.out hW)
        clear h8 h9 h10 h11 h12 hx
        obtain⟨p10,hp10⟩:∃p10,wr.heap.size=p10:=⟨_,rfl⟩
        obtain⟨b3,e3⟩:∃b,(l.kind==3)=b:=⟨_,rfl⟩
        have K3:Hid ((l.kind=3)↔b3=true):=by show _↔_;rw[←e3];simp
        have HBAD:Hid (Zcr (Zad r) l=true→(111:Int)=Zap r):=fun hb=>by
         have:r.body.any (Zcr (Zad r))=true:=List.any_eq_true.2 ⟨l,zmg HXL.out,hb⟩
         unfold Zap
         rw[HBH.out,if_neg (by simp),HALL.out,if_neg (by simp),HALL3.out,if_neg (by simp),if_pos this]
        have PC:Hid (∀W,Ext (wr.alloc (.cells #[.int .i64 l.kind,.string l.atom.pred,.slice al nl cl,.int .i64 l.op,.int .i64 l.left.kind,.string l.left.text,.int .i64 l.right.kind,.string l.right.text] 66)) W→W.cell? ⟨p10,0,none⟩=some (.int .i64 l.kind)∧W.cell? ⟨p10,2,none⟩=some (.slice al nl cl)∧W.cell? ⟨p10,6,none⟩=some (.int .i64 l.right.kind)∧W.cell? ⟨p10,7,none⟩=some (.string l.right.text)):=fun W hW=>by
         rw[←hp10]
         exact⟨Zac hW (by go_simp),Zac hW (by go_simp),Zac hW (by go_simp),Zac hW (by go_simp)⟩
        cases b3 with
        |false=>
         have HCMP:Hid (ZdW (Zad r) l=false):=by show _=_;unfold ZdW;simp[K3.out]
         go_wp2
         have K10:=zh (PC.out _ zbr).1
         have hE6:=HEA.out (.cells #[.int .i64 l.kind,.string l.atom.pred,.slice al nl cl,.int .i64 l.op,.int .i64 l.left.kind,.string l.left.text,.int .i64 l.right.kind,.string l.right.text] 66)
         generalize wr.alloc (.cells #[.int .i64 l.kind,.string l.atom.pred,.slice al nl cl,.int .i64 l.op,.int .i64 l.left.kind,.string l.left.text,.int .i64 l.right.kind,.string l.right.text] 66)=W6 at K10 hE6 ⊢
         clear hp10 h0 h1 h2 h3 h4 h5 h6 h7 PC
         have EW6:Hid (Ext wr W6):=hE6
         obtain⟨b2,e2⟩:∃b,(l.kind==2)=b:=⟨_,rfl⟩
         have K2:Hid ((l.kind=2)↔b2=true):=by show _↔_;rw[←e2];simp
         clear hE6
         go_loopw [73] (fun u wj=>∃q:Nat,q≤nl∧u=.int .i64 q∧(l.atom.terms.take q).any (ZcZ (Zad r) l)=false∧Ext W6 wj) (fun u _=>nl-(intOf u).toNat)
         case atStart=>exact⟨0,by omega,rfl,by simp,Below.refl _ _⟩
         case round=>
          obtain⟨q,hql,rfl,hq5,hE5⟩:=hrel
          have HQ5:=zh hq5
          have HE5:=zh hE5
          have HEWR:=zh (Zaa EW6.out hE5)
          have k10:=Zac hE5 K10.out
          clear hq5 hE5
          by_cases hlq:q<nl
          ·have hqi:(q:Int)<(nl:Int):=by omega
           obtain⟨t,bt,ot,hx,rfl,hc1,hc2,hc3⟩:=(HTS.out.keep HEWR.out).2.at hlq
           have HXT:=zh hx
           have HTQ:Hid (l.atom.terms.take (q+1)=l.atom.terms.take q++[t]):=ZaA hx
           clear hx
           have k11:∀o,(wr.alloc o).cell? ⟨p10,0,none⟩=some (.int .i64 l.kind):=fun o=>Zac (Zab zbr o) k10
           have HEB:Hid (∀o,Ext W6 (wr.alloc o)):=fun o=>Zaa HE5.out (Zab zbr o)
           have ST:Hid (∀o,Calls Tryz.prog 58 #[Zd8 t,.bool true,.pointer (some ⟨bx,0,none⟩)] (wr.alloc o) fun e w'=>e=.returned (.bool (Zbz (Zad r) t true))∧Ext (wr.alloc o) w'):=fun o=>CS4.out t true _ (Zaa EW6.out (HEB.out o))
           cases b2 with
           |false=>
            go_wp2
            go_roundw
            case rel=>exact⟨q+1,by omega,by go_num,by rw[HTQ.out,List.any_append,HQ5.out];simp[ZcZ,K2.out],HEB.out _⟩
            case measure=>simp[intOf];omega
           |true=>
            obtain⟨bs,hbs⟩:∃b,Zbz (Zad r) t true=b:=⟨_,rfl⟩
            have HBS:=zh hbs
            rw[hbs] at ST
            clear hbs
            cases bs with
            |false=>
             go_wp2_with (go_at_call 58;(with_reducible refine(ST.out _).mono ?_);rintro e w5 ⟨rfl,hb5⟩)
             go_ret
             refine⟨ZcN (b:=Zap r) ?_,Zaa HEW4.out (Zaa EW6.out (Zaa (HEB.out _) hb5))⟩
             have hb:Zcr (Zad r) l=true:=by
              unfold Zcr
              rw[Bool.or_eq_true]
              exact .inr (List.any_eq_true.2 ⟨t,zmg HXT.out,by unfold ZcZ;rw[HBS.out];simp[K2.out]⟩)
             exact HBAD.out hb
            |true=>
             go_wp2_with (go_at_call 58;(with_reducible refine(ST.out _).mono ?_);rintro e w5 ⟨rfl,hb5⟩)
             go_roundw
             case rel=>exact⟨q+1,by omega,by go_num,by rw[HTQ.out,List.any_append,HQ5.out];simp[ZcZ,HBS.out],Zaa (HEB.out _) hb5⟩
             case measure=>simp[intOf];omega
          ·obtain rfl:q=nl:=by omega
           have hgq:¬(q:Int)<(q:Int):=by omega
           have HALL5:Hid (l.atom.terms.any (ZcZ (Zad r) l)=false):=by
            have:=HQ5.out
            rwa [List.take_of_length_le (by have:=HLT.out;omega)] at this
           go_wp2
           go_roundw
           case rel=>exact⟨m+1,by omega,by go_num,by rw[HTM.out,List.any_append,HQ4.out];simp[Zcr,HCMP.out,HALL5.out],Zaa HE4.out HEWR.out⟩
           case measure=>simp[intOf];omega
        |true=>
         have SL:Hid (∀o,Calls Tryz.prog 58 #[Zd8 l.left,.bool false,.pointer (some ⟨bx,0,none⟩)] (wr.alloc o) fun e w'=>e=.returned (.bool (Zbz (Zad r) l.left false))∧Ext (wr.alloc o) w'):=fun o=>CS4.out l.left false _ (HEA.out o)
         have SR:Hid (∀W,Ext wr W→Calls Tryz.prog 58 #[Zd8 l.right,.bool false,.pointer (some ⟨bx,0,none⟩)] W fun e w'=>e=.returned (.bool (Zbz (Zad r) l.right false))∧Ext W w'):=fun W hW=>CS4.out l.right false W hW
         obtain⟨sl,hsl⟩:∃b,Zbz (Zad r) l.left false=b:=⟨_,rfl⟩
         obtain⟨sr,hsr⟩:∃b,Zbz (Zad r) l.right false=b:=⟨_,rfl⟩
         have HSL:=zh hsl
         have HSR:=zh hsr
         rw[hsl] at SL
         rw[hsr] at SR
         clear hsl hsr
         cases sl with
         |false=>
          go_wp2_with (go_at_call 58;(with_reducible refine(SL.out _).mono ?_);rintro e w5 ⟨rfl,hb5⟩)
          go_ret
          exact⟨ZcN (b:=Zap r) (HBAD.out (by unfold Zcr ZdW;rw[HSL.out];simp[K3.out])),Zaa HEW4.out (Zaa (HEA.out _) hb5)⟩
         |true=>
          cases sr with
          |false=>
           go_wp2_with (first
            |(go_at_call 58;(with_reducible refine(SL.out _).mono ?_);rintro e w5 ⟨rfl,hb5⟩;obtain⟨z0,z2,z6,z7⟩:=PC.out _ hb5;have EZ:Hid (Ext wr w5):=Zaa (HEA.out _) hb5;clear hb5)
            |(go_at_call 58;(with_reducible refine(SR.out _ EZ.out).mono ?_);rintro e w6 ⟨rfl,hb6⟩))
           go_ret
           exact⟨ZcN (b:=Zap r) (HBAD.out (by unfold Zcr ZdW;rw[HSR.out];simp[K3.out])),Zaa HEW4.out (Zaa EZ.out hb6)⟩
          |true=>
           have HCMP:Hid (ZdW (Zad r) l=false):=by show _=_;unfold ZdW;rw[HSL.out,HSR.out];simp
           go_wp2_with (first
            |(go_at_call 58;(with_reducible refine(SL.out _).mono ?_);rintro e w5 ⟨rfl,hb5⟩;obtain⟨z0,z2,z6,z7⟩:=PC.out _ hb5;have EZ:Hid (Ext wr w5):=Zaa (HEA.out _) hb5;clear hb5)
            |(go_at_call 58;(with_reducible refine(SR.out _ EZ.out).mono ?_);rintro e W6 ⟨rfl,hb6⟩;have y0:=Zac hb6 z0;have y2:=Zac hb6 z2))
           have hE6:=Zaa EZ.out hb6
           have K10:=zh y0
           clear hp10 h0 h1 h2 h3 h4 h5 h6 h7 PC z0 z2 z6 z7 y0 y2 hb6 EZ SL SR
           have EW6:Hid (Ext wr W6):=hE6
           obtain⟨b2,e2⟩:∃b,(l.kind==2)=b:=⟨_,rfl⟩
           have K2:Hid ((l.kind=2)↔b2=true):=by show _↔_;rw[←e2];simp
           clear hE6
           go_loopw [73] (fun u wj=>∃q:Nat,q≤nl∧u=.int .i64 q∧(l.atom.terms.take q).any (ZcZ (Zad r) l)=false∧Ext W6 wj) (fun u _=>nl-(intOf u).toNat)
           case atStart=>exact⟨0,by omega,rfl,by simp,Below.refl _ _⟩
           case round=>
            obtain⟨q,hql,rfl,hq5,hE5⟩:=hrel
            have HQ5:=zh hq5
            have HE5:=zh hE5
            have HEWR:=zh (Zaa EW6.out hE5)
            have k10:=Zac hE5 K10.out
            clear hq5 hE5
            by_cases hlq:q<nl
            ·have hqi:(q:Int)<(nl:Int):=by omega
             obtain⟨t,bt,ot,hx,rfl,hc1,hc2,hc3⟩:=(HTS.out.keep HEWR.out).2.at hlq
             have HXT:=zh hx
             have HTQ:Hid (l.atom.terms.take (q+1)=l.atom.terms.take q++[t]):=ZaA hx
             clear hx
             have k11:∀o,(wr.alloc o).cell? ⟨p10,0,none⟩=some (.int .i64 l.kind):=fun o=>Zac (Zab zbr o) k10
             have HEB:Hid (∀o,Ext W6 (wr.alloc o)):=fun o=>Zaa HE5.out (Zab zbr o)
             have ST:Hid (∀o,Calls Tryz.prog 58 #[Zd8 t,.bool true,.pointer (some ⟨bx,0,none⟩)] (wr.alloc o) fun e w'=>e=.returned (.bool (Zbz (Zad r) t true))∧Ext (wr.alloc o) w'):=fun o=>CS4.out t true _ (Zaa EW6.out (HEB.out o))
             cases b2 with
             |false=>
              go_wp2
              go_roundw
              case rel=>exact⟨q+1,by omega,by go_num,by rw[HTQ.out,List.any_append,HQ5.out];simp[ZcZ,K2.out],HEB.out _⟩
              case measure=>simp[intOf];omega
             |true=>
              obtain⟨bs,hbs⟩:∃b,Zbz (Zad r) t true=b:=⟨_,rfl⟩
              have HBS:=zh hbs
              rw[hbs] at ST
              clear hbs
              cases bs with
              |false=>
               go_wp2_with (go_at_call 58;(with_reducible refine(ST.out _).mono ?_);rintro e w5 ⟨rfl,hb5⟩)
               go_ret
               refine⟨ZcN (b:=Zap r) ?_,Zaa HEW4.out (Zaa EW6.out (Zaa (HEB.out _) hb5))⟩
               have hb:Zcr (Zad r) l=true:=by
                unfold Zcr
                rw[Bool.or_eq_true]
                exact .inr (List.any_eq_true.2 ⟨t,zmg HXT.out,by unfold ZcZ;rw[HBS.out];simp[K2.out]⟩)
               exact HBAD.out hb
              |true=>
               go_wp2_with (go_at_call 58;(with_reducible refine(ST.out _).mono ?_);rintro e w5 ⟨rfl,hb5⟩)
               go_roundw
               case rel=>exact⟨q+1,by omega,by go_num,by rw[HTQ.out,List.any_append,HQ5.out];simp[ZcZ,HBS.out],Zaa (HEB.out _) hb5⟩
               case measure=>simp[intOf];omega
            ·obtain rfl:q=nl:=by omega
             have hgq:¬(q:Int)<(q:Int):=by omega
             have HALL5:Hid (l.atom.terms.any (ZcZ (Zad r) l)=false):=by
              have:=HQ5.out
              rwa [List.take_of_length_le (by have:=HLT.out;omega)] at this
             go_wp2
             go_roundw
             case rel=>exact⟨m+1,by omega,by go_num,by rw[HTM.out,List.any_append,HQ4.out];simp[Zcr,HCMP.out,HALL5.out],Zaa HE4.out HEWR.out⟩
             case measure=>simp[intOf];omega
       ·obtain rfl:m=k:=by omega
        have hgm:¬(m:Int)<(m:Int):=by omega
        have HALL4:Hid (r.body.any (Zcr (Zad r))=false):=by
         have:=HQ4.out
         rwa [List.take_of_length_le (by have:=HLB.out;omega)] at this
        go_wp2
        go_ret
        refine⟨ZcN (b:=Zap r) ?_,HEW4.out⟩
        unfold Zap
        rw[HBH.out,if_neg (by simp),HALL.out,if_neg (by simp),HALL3.out,if_neg (by simp),HALL4.out,if_neg (by simp)]
