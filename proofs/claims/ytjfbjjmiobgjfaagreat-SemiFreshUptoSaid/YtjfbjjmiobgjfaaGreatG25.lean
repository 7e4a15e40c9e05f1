/- The document's search (layer 14): base; what from brings; its memory. -/
import Derived.Test.YtjfbjjmiobgjfaaGreatG24
set_option maxRecDepth 100000
set_option maxHeartbeats 8000000
namespace Go.Proofs.YtjfbjjmiobgjfaaGreat
open ChangeShapes WideShapes ChangeAt RowKit
open K (ZaG Zda ZaQ Zaq Zbl ZaR Zbw Zcm)
def ZeI (w:World)(a:Option Addr)(n bb:Nat):Prop:=n≤1000000∧∀i,i<n→∃g o,a=some ⟨g,o,none⟩∧w.cell? ⟨g,o+i,none⟩=some (.pointer (some ⟨bb,0,none⟩))
theorem ZeI.ext {w w':World}{a:Option Addr}{n bb:Nat}(h:ZeI w a n bb)(e:Ext w w'):ZeI w' a n bb:=⟨h.1,fun i hi=>let ⟨g,o,h1,h2⟩:=h.2 i hi;⟨g,o,h1,Zac e h2⟩⟩
theorem Zrh (a:Option Addr)(n c bb i:Nat)(w:World)(h:ZeI w a n bb)(hi:i<n):Calls Tryz.prog 165 #[.slice a n c,.int .i64 i] w fun e w'=>e=.returned (.pointer (some ⟨bb,0,none⟩))∧w'=w:=by
 obtain⟨g,o,rfl,hg⟩:=h.2 i hi
 have hii:(i:Int)<(n:Int):=by omega
 clear h hi
 go_enter Tryz.func165,Tryz.ntmps165
 go_wp2
 go_returns
 exact⟨rfl,rfl⟩
def Zcx (dl:List Za7)(tests:List K.Lit):List K.Lit→ZcQ→List (List ByteArray)
 |[],e=>if tests.all (fun l=>decide (l.kind=1)||Zct l dl e.1 e.2)=true then [e.2] else []
 |l::ls,e=>if l.kind=1 then (Zbc l.atom.terms e.1 e.2 [] (Zdj dl l.atom)).flatMap (Zcx dl tests ls) else Zcx dl tests ls e
theorem Zfh:∀(ts:List ZaG) (row ns vs:List ByteArray) (x:ZcQ),Zbh ts row ns vs=some x→ns.length=vs.length→x.1.length=x.2.length∧x.1.length≤ns.length+ts.length
 |[],_,ns,vs,x,h,hl=>by
  unfold Zbh at h
  cases h
  exact⟨hl,by simp⟩
 |t::ts,[],ns,vs,x,h,hl=>by
  unfold Zbh at h
  cases h
  exact⟨hl,by simp⟩
 |t::ts,y::ys,ns,vs,x,h,hl=>by
  unfold Zbh at h
  split at h
  ·cases h
  ·split at h
   ·have:=Zfh ts ys ns vs x h hl
    exact⟨this.1,by rw[List.length_cons];omega⟩
   ·split at h
    ·split at h
     ·have:=Zfh ts ys ns vs x h hl
      exact⟨this.1,by rw[List.length_cons];omega⟩
     ·cases h
    ·have:=Zfh ts ys (ns++[t.text]) (vs++[y]) x h (by simp[hl])
     refine⟨this.1,?_⟩
     have h2:=this.2
     rw[List.length_append,List.length_singleton] at h2
     rw[List.length_cons]
     omega
theorem Zp3 {l:List ZcQ}{f x:ZcQ}(h:x∈Zi3 l f):x=f∨x∈l:=by
 have key:x∈l.take (upE l f l.length)++f::l.drop (upE l f l.length)→x=f∨x∈l:=fun h=>by
  rcases List.mem_append.1 h with h|h
  ·exact .inr (List.mem_of_mem_take h)
  ·rcases List.mem_cons.1 h with h|h
   ·exact .inl h
   ·exact .inr (List.mem_of_mem_drop h)
 unfold Zi3 at h
 split at h
 ·split at h
  ·exact .inr h
  ·exact key h
 ·exact key h
theorem ZeP (ts:List ZaG)(ns vs:List ByteArray):∀(rs:List (List ByteArray)) (out:List ZcQ) (x:ZcQ),x∈Zbc ts ns vs out rs→x∈out∨∃r∈rs,Zbh ts r ns vs=some x
 |[],out,x,h=>.inl h
 |r::rs,out,x,h=>by
  unfold Zbc at h
  split at h
  ·rcases ZeP ts ns vs rs out x h with h|⟨r',h1,h2⟩
   ·exact .inl h
   ·exact .inr ⟨r',List.mem_cons_of_mem _ h1,h2⟩
  ·rename_i f hf
   rcases ZeP ts ns vs rs _ x h with h|⟨r',h1,h2⟩
   ·rcases Zp3 h with rfl|h
    ·exact .inr ⟨r,by simp,hf⟩
    ·exact .inl h
   ·exact .inr ⟨r',List.mem_cons_of_mem _ h1,h2⟩
structure ZeC (w:World)(lo pw:Nat)(ab:Option Addr)(nb cb:Nat)(as_:Option Addr)(cs:Nat)(out:List (List ByteArray)):Prop where
 lt:pw<lo
 ty:Ty w pw 214
 c2:w.cell? ⟨pw,2,none⟩=some (.slice ab nb cb)
 c3:w.cell? ⟨pw,3,none⟩=some (.slice as_ nb cs)
 c4:w.cell? ⟨pw,4,none⟩=some (.int .i64 4611686018427387904)
 free:w.frozen? ⟨pw,5,none⟩=false
 row:∃(ao:Option Addr) (co:Nat) (us:List Value),w.cell? ⟨pw,5,none⟩=some (.slice ao out.length co)∧w.ownsRow lo 54 1 (.slice ao out.length co) out.length us∧Zax lo w us out
theorem ZeC.ext {w w':World}{lo pw:Nat}{ab:Option Addr}{nb cb:Nat}{as_:Option Addr}{cs:Nat}{out:List (List ByteArray)}(h:ZeC w lo pw ab nb cb as_ cs out)(e:Ext w w'):ZeC w' lo pw ab nb cb as_ cs out:=by
 obtain⟨ao,co,us,h1,h2,h3⟩:=h.row
 exact⟨h.lt,h.ty.ext e,Zac e h.c2,Zac e h.c3,Zac e h.c4,(e.frozen (p:=⟨pw,5,none⟩) h.ty.lt).trans h.free,ao,co,us,Zac e h1,Zar h2 e,h3.1,fun i r v a b=>Zar (h3.2 i r v a b) e⟩
def Zi4 (lo pw:Nat)(w w':World):Prop:=Zah (fun b=>b=pw∨(lo≤b∧Ty w b 54)) w w'
theorem Zi4.ext {lo pw:Nat}{w w':World}(e:Ext w w'):Zi4 lo pw w w':=(Zah.refl _ _).ext e
theorem Zi4.trans {lo pw:Nat}{w x y:World}(h:Zi4 lo pw w x)(k:Zi4 lo pw x y):Zi4 lo pw w y:=by
 refine⟨k.os.trans h.os,k.tape.trans h.tape,k.output.trans h.output,Nat.le_trans h.size k.size,fun b hb hn=>?_⟩
 have h1:=h.block b hb hn
 refine(k.block b (Nat.lt_of_lt_of_le hb h.size) (fun q=>hn ?_)).trans h1
 rcases q with q|⟨q1,cs,z,q2⟩
 ·exact .inl q
 ·exact .inr ⟨q1,cs,z,by rw[←h1];exact q2⟩
theorem Zi4.strs {lo pw:Nat}{w w':World}(h:Zi4 lo pw w w')(hp:Ty w pw 214){b n:Nat}{v:Value}{xs:List Value}(hs:w.ownsRow b 9 1 v n xs):w'.ownsRow b 9 1 v n xs:=Zah.own h hs fun g hg q=>by
 rcases q with rfl|⟨_,q⟩
 ·exact(ZaN hs hg).ne hp (by decide) rfl
 ·exact(ZaN hs hg).ne q (by decide) rfl
theorem Zi4.envs {lo lo2 pw:Nat}{w w':World}(h:Zi4 lo pw w w')(hp:Ty w pw 214){v:Value}{l:List ZcQ}{ps:List (Value×Value)}(hs:Zfg lo2 w v l ps):Zfg lo2 w' v l ps:=by
 refine⟨hs.len,Zah.own h hs.own fun g hg q=>?_,fun i x p a b=>?_⟩
 ·rcases q with rfl|⟨_,q⟩
  ·exact(ZaN hs.own hg).ne hp (by decide) rfl
  ·exact(ZaN hs.own hg).ne q (by decide) rfl
 ·obtain⟨z0,a1,c1,a2,c2,z1,z2,z3⟩:=hs.at_ i x p a b
  exact⟨z0,a1,c1,a2,c2,z1,h.strs hp z2,h.strs hp z3⟩
def Zdq (w0:World)(lo pw:Nat)(ab:Option Addr)(nb cb:Nat)(as_:Option Addr)(cs:Nat)(out:List (List ByteArray))(W:World)(en:Ending)(w':World):Prop:=en=.returned (.bool true)∧ZeC w' lo pw ab nb cb as_ cs out∧Zi4 lo pw W w'∧Ext w0 w'
theorem ZeC.push {w w2:World}{lo pw:Nat}{ab:Option Addr}{nb cb:Nat}{as_:Option Addr}{cs:Nat}{out:List (List ByteArray)}(h:ZeC w lo pw ab nb cb as_ cs out){ao a7:Option Addr}{co c7:Nat}{us:List Value}(q1:w.cell? ⟨pw,5,none⟩=some (.slice ao out.length co))(q2:w.ownsRow lo 54 1 (.slice ao out.length co) out.length us)(q3:Zax lo w us out){o:Obj}{u:Value}{r:List ByteArray}(hu:w.ownsRow lo 9 1 u r.length (r.map Value.string))
  (r1:w2.ownsRow lo 54 1 (.slice a7 (out.length+1) c7) (out.length+1) (us++[u])) (g:(w.alloc o).grownBy w2 (Value.slice ao out.length co).ownBlock):
  w2.cell? ⟨pw,5,none⟩=some (.slice ao out.length co)∧w2.frozen? ⟨pw,5,none⟩=false∧ZeC (w2.setCell ⟨pw,5,none⟩ (.slice a7 (out.length+1) c7)) lo pw ab nb cb as_ cs (out++[r])∧Zi4 lo pw w (w2.setCell ⟨pw,5,none⟩ (.slice a7 (out.length+1) c7)):=by
 have B:Zah (fun b=>(Value.slice ao out.length co).ownBlock=some b) w w2:=((Zah.refl _ w).alloc o).grown g (fun b e=>.inl e)
 have np:¬(Value.slice ao out.length co).ownBlock=some pw:=fun e=>(ZaN q2 e).ne h.ty (by decide) rfl
 have nst:∀{b n:Nat} {v:Value} {xs:List Value},w.ownsRow b 9 1 v n xs→(w2.setCell ⟨pw,5,none⟩ (.slice a7 (out.length+1) c7)).ownsRow b 9 1 v n xs:=fun {b n v xs} hs=>by
  have h1:w2.ownsRow b 9 1 v n xs:=B.own hs (fun g e e2=>(ZaN hs e).ne (ZaN q2 e2) (by decide) rfl)
  refine Zam h1 ?_ _
  rcases hq:v.ownBlock with _|g
  ·exact .inl rfl
  ·refine .inr fun e=>?_
   injection e with e
   have e:g=pw:=e
   subst e
   exact(ZaN hs hq).ne h.ty (by decide) rfl
 have c5:=B.cell np q1
 have f5:=ZaE B np h.ty.lt h.free
 have ty2:=h.ty.but B np
 refine⟨c5,f5,⟨h.lt,?_,?_,?_,?_,by rw[World.frozen?_setCell];exact f5,a7,c7,us++[u],?_,?_,?_⟩,?_⟩
 ·obtain⟨cs1,q,hq⟩:=ty2
  obtain⟨cs2,h2⟩:=Zbk hq 5 (.slice a7 (out.length+1) c7)
  exact⟨cs2,q,h2⟩
 ·rw[World.cell?_setCell_other _ _ _ _ (by simp)];exact B.cell np h.c2
 ·rw[World.cell?_setCell_other _ _ _ _ (by simp)];exact B.cell np h.c3
 ·rw[World.cell?_setCell_other _ _ _ _ (by simp)];exact B.cell np h.c4
 ·rw[List.length_append];exact World.cell?_setCell_same _ _ _ c5
 ·rw[List.length_append]
  refine Zam r1 ?_ _
  rcases hq:(Value.slice a7 (out.length+1) c7).ownBlock with _|g
  ·exact .inl rfl
  ·refine .inr fun e=>?_
   injection e with e
   have e:g=pw:=e
   subst e
   exact(ZaN r1 hq).ne ty2 (by decide) rfl
 ·exact Zax.append ⟨q3.1,fun i r v a b=>nst (q3.2 i r v a b)⟩ (Zax.sing (nst hu))
 ·refine(Zah.mono B (fun b _ e=>.inr ⟨(q2.lt b e).1,ZaN q2 e⟩)).trans ?_
  exact Zah.set (S:=fun b=>b=pw∨(lo≤b∧Ty w b 54)) (Zah.refl _ _) (.inl (.inl rfl)) 5 _
def Zn4 (dl:List Za7)(e:ZcQ)(l:K.Lit):Bool:=decide (l.kind=1)||Zct l dl e.1 e.2
theorem Zsf (body:List K.Lit)(ab:Option Addr)(nb cb:Nat)(as_:Option Addr)(cs lo pw lod bb:Nat)(dl:List Za7)(w0:World)(hb:Zbl w0 ab nb body)(hbs:ZeI w0 as_ nb bb)(hD:ZaU w0 lod bb dl)(hdl:dl.length≤1000000)(h64:∀l∈body,l.kind=1∨l.kind=2→l.atom.terms.length≤64)(hpw:w0.heap.size≤pw)
  (e:ZcQ) (n:Nat) (an:Option Addr) (cn:Nat) (av:Option Addr) (cv:Nat) (out:List (List ByteArray)) (W:World) (hE:Ext w0 W) (hW:ZeC W lo pw ab nb cb as_ cs out) (hlo:lo≤W.heap.size) (h1:Zai W an n e.1) (h2:Zai W av n e.2) (hz1:an=none→n=0∧cn=0) (hz2:av=none→n=0∧cv=0) (hn:n≤100000) (hout:(out++Zcx dl body [] e).length≤1000000):
  Calls Tryz.prog 145 #[.pointer (some ⟨pw,0,none⟩),.int .i64 nb,ZeB an n cn av cv] W (Zdq w0 lo pw ab nb cb as_ cs (out++Zcx dl body [] e) W):=by
 obtain⟨i0,hinf,hz0,hzs1,hzs2⟩:=info_parts ZbI
 obtain⟨j0,ginf,gz0,gzs1,gzs2⟩:=info_parts Zcu
 obtain⟨W1,hW1⟩:∃W1,W1=W.alloc (.cells #[.slice an n cn,.slice av n cv] 138):=⟨_,rfl⟩
 have E1:Hid (Ext W W1):=by show Ext _ _;rw[hW1];exact Zab zbr _
 have P5:Hid (Za1 W1 W.heap.size 138 (.slice an n cn) (.slice av n cv)):=by show _=_;rw[hW1];exact heap_alloc_new W _
 obtain⟨p5,hp5⟩:∃q,W.heap.size=q:=⟨_,rfl⟩
 rw[hp5] at P5
 have WV:Hid (ZeC W1 lo pw ab nb cb as_ cs out):=hW.ext E1.out
 have X1:Hid (Ext w0 W1):=Zaa hE E1.out
 have LB:=zh hb
 have HLB:=zh hb.2.1
 have hnb:nb≤1000000:=hbs.1
 have HBS:=zh hbs
 have S2:Hid (∀W2,Ext W W2→Zhx W2 (.slice av n cv) (e.2.map Value.string)):=fun W2 hh=>(h2.keep hh).src hz2
 have LV:Hid ((e.2.map Value.string).length=n):=by show _=_;rw[List.length_map];exact h2.2.1
 have LE2:Hid (e.2.length=n):=h2.2.1
 have HO:Hid (∀(l:K.Lit) at_ nt ct W2,l∈body→Zaq w0 at_ nt l.atom.terms→Ext W W2→Ext w0 W2→Calls Tryz.prog 164 #[ZtF l at_ nt ct,.pointer (some ⟨bb,0,none⟩),ZeB an n cn av cv] W2 fun e' w'=>e'=.returned (.bool (Zct l dl e.1 e.2))∧Ext W2 w'):=fun l at_ nt ct W2 hl ht hw hw0=>Zse l at_ nt ct lod bb dl e.1 e.2 an n cn av cv W2 (ht.keep hw0) (fun hk=>by have:=h64 l hl (.inr hk);have:=ht.2.1;omega) (hD.ext hw0) hdl (h1.keep hw) (h2.keep hw) hz1 hz2 hn
 have HT:Hid (Zcx dl body [] e=if body.all (Zn4 dl e)=true then [e.2] else []):=rfl
 have HOUT:=zh hout
 have HLO:=zh hlo
 have HPW:=zh hpw
 unfold Zdq
 have c2:=WV.out.c2
 clear h1 h2 hz1 hz2 hD hb hbs hout hlo hpw hE hW
 go_enter Tryz.func145,Tryz.ntmps145
 go_upto_region 1 with (fail)
 rw[←hW1]
 clear hW1 hp5
 go_wp2
 go_loopw [7] (fun u wj=>∃k:Nat,k≤nb∧u=.int .i64 k∧(body.take k).all (Zn4 dl e)=true∧Ext W1 wj) (fun u _=>nb-(intOf u).toNat)
 case atStart=>exact⟨0,by omega,rfl,rfl,Below.refl _ _⟩
 case round=>
  obtain⟨k,hk,rfl,hq,hE⟩:=hrel
  have HQ:=zh hq
  have HE:=zh hE
  have c2:=Zac hE WV.out.c2
  clear hq hE
  by_cases hlt:k<nb
  ·have hki:(k:Int)<(nb:Int):=by omega
   obtain⟨l,b,o,hx,rfl,al,nl,cl,g0,g1,g2,g3,g4,g5,g6,g7,g8,g9⟩:=LB.out.2.at hlt
   have HX:=zh hx
   have HTK:Hid (body.take (k+1)=body.take k++[l]):=ZaA hx
   have HOL:Hid (∀W2,Ext W1 W2→Calls Tryz.prog 164 #[ZtF l al nl cl,.pointer (some ⟨bb,0,none⟩),ZeB an n cn av cv] W2 fun e' w'=>e'=.returned (.bool (Zct l dl e.1 e.2))∧Ext W2 w'):=fun W2 hw=>HO.out l al nl cl W2 (zmg hx) g8 (Zaa E1.out hw) (Zaa X1.out hw)
   have BS:Hid (∀W2,Ext W1 W2→Calls Tryz.prog 165 #[.slice as_ nb cs,.int .i64 k] W2 fun e' w'=>e'=.returned (.pointer (some ⟨bb,0,none⟩))∧w'=W2):=fun W2 hw=>Zrh as_ nb cs bb k W2 (HBS.out.ext (Zaa X1.out hw)) hlt
   have KK:Hid (∀W2,Ext W1 W2→W2.cell? ⟨pw,2,none⟩=some (.slice (some ⟨b,o,none⟩) nb cb)∧W2.cell? ⟨pw,3,none⟩=some (.slice as_ nb cs)∧W2.cell? ⟨p5,0,none⟩=some (.slice an n cn)∧W2.cell? ⟨p5,1,none⟩=some (.slice av n cv)∧W2.cell? ⟨b,o+k*8,none⟩=some (.int .i64 l.kind)∧W2.cell? ⟨b,o+k*8+1,none⟩=some (.string l.atom.pred)∧W2.cell? ⟨b,o+k*8+2,none⟩=some (.slice al nl cl)∧W2.cell? ⟨b,o+k*8+3,none⟩=some (.int .i64 l.op)∧W2.cell? ⟨b,o+k*8+4,none⟩=some (.int .i64 l.left.kind)∧W2.cell? ⟨b,o+k*8+5,none⟩=some (.string l.left.text)∧W2.cell? ⟨b,o+k*8+6,none⟩=some (.int .i64 l.right.kind)∧W2.cell? ⟨b,o+k*8+7,none⟩=some (.string l.right.text)):=fun W2 hw=>by
    have hx:=Zaa X1.out hw
    exact⟨Zac hw WV.out.c2,Zac hw WV.out.c3,(P5.out.ext hw).c0,(P5.out.ext hw).c1,Zac hx g0,Zac hx g1,Zac hx g2,Zac hx g3,Zac hx g4,Zac hx g5,Zac hx g6,Zac hx g7⟩
   obtain⟨k1,k2,k3,k4,k5,k6,k7,k8,k9,k10,k11,k12⟩:=KK.out _ HE.out
   obtain⟨j1,j2,j3,j4,j5,j6,j7,j8,j9,j10,j11,j12⟩:=KK.out _ (Zaf HE.out)
   obtain⟨q,hqk⟩:∃q,(l.kind != 1)=q:=⟨_,rfl⟩
   have KQ:Hid (decide (l.kind=1)= !q):=by
    show _=_
    rw[←hqk,Bool.eq_iff_iff]
    simp
   clear hx g0 g1 g2 g3 g4 g5 g6 g7 g8 g9
   cases q with
   |false=>
    go_wp2
    go_quiet (fail)
    go_wp2
    go_roundw
    case rel=>exact⟨k+1,by omega,by go_num,by rw[HTK.out,List.all_append,HQ.out];simp[Zn4,KQ.out],Zae HE.out _⟩
    case measure=>simp[intOf];omega
   |true=>
    obtain⟨hh,hhe⟩:∃h,Zct l dl e.1 e.2=h:=⟨_,rfl⟩
    have HHE:=zh hhe
    rw[hhe] at HOL
    clear hhe
    have TD:Hid (Zn4 dl e l=hh):=by
     show _=_
     unfold Zn4
     rw[KQ.out,HHE.out]
     rfl
    cases hh
    all_goals
     go_wp2
     go_region_held3 (fun w'=>w'.cell? ⟨pw,2,none⟩=some (.slice (some ⟨b,o,none⟩) nb cb)∧w'.cell? ⟨pw,3,none⟩=some (.slice as_ nb cs)∧w'.cell? ⟨p5,0,none⟩=some (.slice an n cn)∧w'.cell? ⟨p5,1,none⟩=some (.slice av n cv)∧w'.cell? ⟨b,o+k*8,none⟩=some (.int .i64 l.kind)∧w'.cell? ⟨b,o+k*8+1,none⟩=some (.string l.atom.pred)∧w'.cell? ⟨b,o+k*8+2,none⟩=some (.slice al nl cl)∧w'.cell? ⟨b,o+k*8+3,none⟩=some (.int .i64 l.op)∧w'.cell? ⟨b,o+k*8+4,none⟩=some (.int .i64 l.left.kind)∧w'.cell? ⟨b,o+k*8+5,none⟩=some (.string l.left.text)∧w'.cell? ⟨b,o+k*8+6,none⟩=some (.int .i64 l.right.kind)∧w'.cell? ⟨b,o+k*8+7,none⟩=some (.string l.right.text))
      (with_reducible (first|go_keep|exact⟨k1,k2,k3,k4,k5,k6,k7,k8,k9,k10,k11,k12⟩|exact⟨j1,j2,j3,j4,j5,j6,j7,j8,j9,j10,j11,j12⟩|exact KK.out _ e4))
      (first
       |(go_at_call 165;(with_reducible refine(BS.out _ (Zaf HE.out)).mono ?_);rintro e' w2 ⟨rfl,rfl⟩)
       |(go_at_call 164;(with_reducible refine(HOL.out _ (Zaf HE.out)).mono ?_);rintro e' w3 ⟨rfl,e3⟩;have e4:=Zaa (Zaf HE.out) e3)
       |fail)
     go_wp2
    ·go_returns
     have HF:Zcx dl body [] e=[]:=by
      rw[HT.out,if_neg]
      rw[Bool.not_eq_true,List.all_eq_false]
      exact⟨l,zmg HX.out,by rw[TD.out];simp⟩
     refine⟨rfl,?_,Zi4.ext (Zaa E1.out e4),Zaa X1.out e4⟩
     rw[HF,List.append_nil]
     exact WV.out.ext e4
    ·go_roundw
     case rel=>exact⟨k+1,by omega,by go_num,by rw[HTK.out,List.all_append,HQ.out];simp[TD.out],e4⟩
     case measure=>simp[intOf];omega
  ·obtain rfl:k=nb:=by omega
   have hge:¬(k:Int)<(k:Int):=by omega
   have HF:Hid (Zcx dl body [] e=[e.2]):=by
    have:=HQ.out
    rw[List.take_of_length_le (by have:=HLB.out;omega)] at this
    show _=_
    rw[HT.out,if_pos this]
   have WR:Hid (ZeC wr lo pw ab k cb as_ cs out):=WV.out.ext HE.out
   have hol:out.length+1≤1000000:=by have:=HOUT.out;rw[HF.out,List.length_append] at this;exact this
   obtain⟨ao,co,us,q1,q2,q3⟩:=WR.out.row
   have C5:Hid (∀W2,Ext wr W2→W2.cell? ⟨pw,5,none⟩=some (.slice ao out.length co)):=fun W2 hw=>Zac hw q1
   have O2:=zh q2
   have R3:=zh q3
   obtain⟨L,hL⟩:∃L,out.length=L:=⟨_,rfl⟩
   have HL:=zh hL
   have q1L:=q1
   rw[hL] at q1L
   have C5L:Hid (∀W2,Ext wr W2→W2.cell? ⟨pw,5,none⟩=some (.slice ao L co)):=fun W2 hw=>by rw[←hL];exact Zac hw q1
   have c4:=WR.out.c4
   have hmost:decide ((4611686018427387904:Int)≤(L:Int))=false:=by rw[decide_eq_false_iff_not];omega
   have P51:Hid (∀W2,Ext wr W2→W2.cell? ⟨p5,1,none⟩=some (.slice av n cv)):=fun W2 hw=>(P5.out.ext (Zaa HE.out hw)).c1
   have OB:Hid (∀W2,Ext wr W2→W2.ownsRow lo 54 1 (.slice ao L co) L us):=fun W2 hw=>by rw[←hL];exact Zar q2 hw
   have Z1:Hid (0+n≤maxLen):=by show _≤_;unfold maxLen;omega
   have Z2:Hid ((0+n)*16≤140737488355328):=by show _≤_;omega
   have Z3:Hid (L+1≤maxLen):=by show _≤_;unfold maxLen;omega
   have Z4:Hid ((L+1)*24≤140737488355328):=by show _≤_;omega
   clear q1 q2 q3 hL hol
   go_upto_region 7 with (fail)
   go_wp2
   go_quiet (fail)
   generalize hW5:wr.drewN nq=W5
   have e5:Hid (Ext wr W5):=by show Ext _ _;rw[←hW5];exact Zae zbr _
   clear hW5
   have x1:=P51.out _ e5.out
   have EWW:Hid (Ext W W5):=Zaa E1.out (Zaa HE.out e5.out)
   go_wp2_with (first
    |(at_builtin;(refine ZaD rfl _ _ 54 rfl W5.heap.size 9 i0 (.string ⟨#[]⟩) 16 Tryz.underlying54 hinf hz0 hzs1 hzs2 rfl _ _ _ rfl (World.ownsRow_nil _ _ _ _) _ _ _ rfl (S2.out _ EWW.out) LV.out Z1.out Z2.out (Nat.le_refl _) ?_);intro v6 w6 own6 g6;have e6:Ext W5 w6:=Zaz zbr g6 (by intro g e;cases e);rw[Nat.zero_add,List.nil_append] at own6;obtain⟨a6,c6,rfl,_⟩:=Zag own6;have x5:=C5L.out _ (Zaa e5.out e6))
    |(at_builtin;(refine ZaD rfl _ _ 50 rfl lo 54 j0 (.slice none 0 0) 24 Tryz.underlying50 ginf gz0 gzs1 gzs2 rfl _ _ _ rfl (Zar (OB.out _ (Zaa e5.out e6)) (Zab zbr _)) _ 1 _ rfl (Zhx.box _ _ _ rfl) rfl Z3.out Z4.out (Nat.le_trans HLO.out (Nat.le_trans (Zaa EWW.out e6).size (by simp))) ?_);intro v7 w7 own7 g7;obtain⟨a7,c7,rfl,_⟩:=Zag own7;obtain⟨y5,y6,wv7,of7⟩:=ZeC.push (r:=e.2) ((WR.out.ext e5.out).ext e6) (C5.out _ (Zaa e5.out e6)) (Zar O2.out (Zaa e5.out e6)) ⟨R3.out.1,fun i r v a b=>Zar (R3.out.2 i r v a b) (Zaa e5.out e6)⟩ (u:=.slice a6 n c6) (by rw[LE2.out];exact Zao own6 (Nat.le_trans HLO.out EWW.out.size)) (a7:=a7) (c7:=c7) (by rw[HL.out];exact own7) (by rw[HL.out];exact g7);rw[HL.out] at y5 wv7 of7))
   go_returns
   refine⟨rfl,?_,(Zi4.ext (Zaa EWW.out e6)).trans of7,?_⟩
   ·rw[HF.out]
    exact wv7
   ·exact Zaw (Zaa X1.out (Zaa HE.out (Zaa e5.out e6))) of7 (fun b hb hs=>by
     have h3:=HPW.out
     rcases hs with rfl|⟨hs,_⟩
     ·omega
     ·have:=WV.out.lt
      omega)
