/- The walk of the document's search (layer 14): from a literal on. -/
import Derived.Test.YtjfbjjmiobgjfaaGreatG25
set_option maxRecDepth 100000
set_option maxHeartbeats 8000000
namespace Go.Proofs.YtjfbjjmiobgjfaaGreat
open ChangeShapes WideShapes ChangeAt RowKit
open K (ZaG Zda ZaQ Zaq Zbl ZaR Zbw Zcm)
theorem Zfg.env {lo:Nat}{w:World}{a:Option Addr}{c:Nat}{l:List ZcQ}{ps:List (Value×Value)}(h:Zfg lo w (.slice a l.length c) l ps){j:Nat}{x:ZcQ}(hx:l[j]? =some x):x.1.length=x.2.length∧∃g a1 c1 a2 c2,a=some ⟨g,0,none⟩∧w.cell? ⟨g,j*2,none⟩=some (.slice a1 x.1.length c1)∧w.cell? ⟨g,j*2+1,none⟩=some (.slice a2 x.1.length c2)∧Zai w a1 x.1.length x.1∧Zai w a2 x.1.length x.2∧(a1=none→x.1.length=0∧c1=0)∧(a2=none→x.1.length=0∧c2=0):=by
 obtain⟨p,hp⟩:∃p,ps[j]? =some p:=⟨_,zge (by have:=(zgs hx).1;have:=h.len;omega)⟩
 obtain⟨hl,a1,c1,a2,c2,rfl,h1,h2⟩:=h.at_ j x p hx hp
 obtain⟨q1,q2⟩:=Ziz ps j _ hp
 obtain⟨g,rfl,hg⟩:=Zea h.own q1
 obtain⟨g',e,hg'⟩:=Zea h.own q2
 cases e
 exact⟨hl,g,a1,c1,a2,c2,rfl,hg,hg',ZaL h1 (Za4 h1).1,ZaL h2 (Za4 h2).1,(ZaF h1).2,(ZaF h2).2⟩
theorem ZeQ (ts:List ZaG)(ns vs:List ByteArray):∀(rs:List (List ByteArray)) (out:List ZcQ),(Zbc ts ns vs out rs).length≤out.length+rs.length
 |[],out=>by simp[Zbc]
 |r::rs,out=>by
  unfold Zbc
  split
  ·have:=ZeQ ts ns vs rs out
   rw[List.length_cons];omega
  ·rename_i f _
   have:=ZeQ ts ns vs rs (Zi3 out f)
   have:=ZpZ out f
   rw[List.length_cons];omega
theorem ZmD (dl:List Za7)(tests:List K.Lit)(l:K.Lit)(ls:List K.Lit)(e:ZcQ):Zcx dl tests (l::ls) e=if l.kind=1 then (Zbc l.atom.terms e.1 e.2 [] (Zdj dl l.atom)).flatMap (Zcx dl tests ls) else Zcx dl tests ls e:=by
 conv=>lhs;unfold Zcx
theorem Zn5 {α β:Type}(U:List α)(F:α→List β)(j:Nat):((U.take j).flatMap F).length≤(U.flatMap F).length:=by
 conv=>rhs;rw[←List.take_append_drop j U,List.flatMap_append,List.length_append]
 omega
theorem Zn6 {α β:Type}{U:List α}{F:α→List β}{k:Nat}{x:α}(h:U[k]? =some x):(U.take (k+1)).flatMap F=(U.take k).flatMap F++F x:=by
 rw[ZaA h,List.flatMap_append]
 simp
theorem ZtK (body:List K.Lit)(ab:Option Addr)(nb cb:Nat)(as_:Option Addr)(cs lo pw lod bb:Nat)(dl:List Za7)(w0:World)(hb:Zbl w0 ab nb body)(hbs:ZeI w0 as_ nb bb)(hD:ZaU w0 lod bb dl)(hdl:dl.length≤1000000)(h64:∀l∈body,l.kind=1∨l.kind=2→l.atom.terms.length≤64)(hpw:w0.heap.size≤pw):∀(m i:Nat),i+m=nb→
  ∀(e:ZcQ) (n:Nat) (an:Option Addr) (cn:Nat) (av:Option Addr) (cv:Nat) (out:List (List ByteArray)) (W:World),Ext w0 W→ZeC W lo pw ab nb cb as_ cs out→lo≤W.heap.size→Zai W an n e.1→Zai W av n e.2→(an=none→n=0∧cn=0)→(av=none→n=0∧cv=0)→n+64*m≤100000→(out++Zcx dl body (body.drop i) e).length≤1000000→
  Calls Tryz.prog 145 #[.pointer (some ⟨pw,0,none⟩),.int .i64 i,ZeB an n cn av cv] W (Zdq w0 lo pw ab nb cb as_ cs (out++Zcx dl body (body.drop i) e) W):=by
 intro m
 induction m with
 |zero=>
  intro i him e n an cn av cv out W hE hW hlo h1 h2 hz1 hz2 hn hout
  obtain rfl:i=nb:=by omega
  have hd:body.drop i=[]:=List.drop_of_length_le (by have:=hb.2.1;omega)
  rw[hd] at hout ⊢
  exact Zsf body ab i cb as_ cs lo pw lod bb dl w0 hb hbs hD hdl h64 hpw e n an cn av cv out W hE hW hlo h1 h2 hz1 hz2 (by omega) hout
 |succ m ih=>
  intro i him e n an cn av cv out W hE hW hlo h1 h2 hz1 hz2 hn hout
  have IH:=zh ih
  clear ih
  have hin:i<nb:=by omega
  obtain⟨l,b,o,hx,rfl,al,nl,cl,g0,g1,g2,g3,g4,g5,g6,g7,g8,g9⟩:=hb.2.at hin
  have hd:body.drop i=l::body.drop (i+1):=Zbn hx
  rw[hd,ZmD] at hout ⊢
  obtain⟨W1,hW1⟩:∃W1,W1=W.alloc (.cells #[.slice an n cn,.slice av n cv] 138):=⟨_,rfl⟩
  have E1:Hid (Ext W W1):=by show Ext _ _;rw[hW1];exact Zab zbr _
  have P5:Hid (Za1 W1 W.heap.size 138 (.slice an n cn) (.slice av n cv)):=by show _=_;rw[hW1];exact heap_alloc_new W _
  obtain⟨p5,hp5⟩:∃q,W.heap.size=q:=⟨_,rfl⟩
  rw[hp5] at P5
  have WV:Hid (ZeC W1 lo pw (some ⟨b,o,none⟩) nb cb as_ cs out):=hW.ext E1.out
  have X0:=zh hE
  have X1:Hid (Ext w0 W1):=Zaa hE E1.out
  have hnb:nb≤1000000:=hbs.1
  have HIM:=zh him
  have hini:(i:Int)<(nb:Int):=by omega
  have hne:((i:Int)==(nb:Int))=false:=by rw[beq_eq_false_iff_ne];omega
  have c2:=WV.out.c2
  have GK:=zh (fun (W2:World) (hw:Ext w0 W2)=>(⟨Zac hw g0,Zac hw g1,Zac hw g2⟩:W2.cell? ⟨b,o+i*8,none⟩=some (.int .i64 l.kind)∧W2.cell? ⟨b,o+i*8+1,none⟩=some (.string l.atom.pred)∧W2.cell? ⟨b,o+i*8+2,none⟩=some (.slice al nl cl)))
  obtain⟨y0,y1,y2⟩:=GK.out _ X1.out
  have p50:=P5.out.c0
  have p51:=P5.out.c1
  have w1:IntKind.i64.wrap ((i:Int)+1)=(i:Int)+1:=by rw[IntKind.wrap_i64];omega
  by_cases hk:l.kind=1
  ·have q1:(l.kind != 1)=false:=by simpa using hk
   rw[if_pos hk] at hout ⊢
   have hnl:l.atom.terms.length=nl:=g8.2.1
   have hnl64:nl≤64:=by have:=h64 l (zmg hx) (.inl hk);omega
   obtain⟨rs,hrs⟩:∃rs,Zdj dl l.atom=rs:=⟨_,rfl⟩
   obtain⟨U,hU⟩:∃U,Zbc l.atom.terms e.1 e.2 [] rs=U:=⟨_,rfl⟩
   rw[hrs,hU] at hout ⊢
   have hfew:rs.length≤65536:=by rw[←hrs];exact Zjw hD l.atom
   have hUl:U.length≤65536:=by rw[←hU];have:=ZeQ l.atom.terms e.1 e.2 rs [];simp at this;omega
   have hUm:∀x∈U,x.1.length=x.2.length∧x.1.length≤n+64:=fun x hx=>by
    rw[←hU] at hx
    rcases ZeP _ _ _ _ _ x hx with h|⟨r,_,h⟩
    ·cases h
    ·have:=Zfh _ _ _ _ x h (by rw[h1.2.1,h2.2.1])
     rw[h1.2.1,hnl] at this
     exact⟨this.1,by omega⟩
   obtain⟨W2,hW2⟩:∃W2,W2=W1.alloc (.cells #[.string l.atom.pred,.slice al nl cl] 24):=⟨_,rfl⟩
   have E2:Hid (Ext W1 W2):=by show Ext _ _;rw[hW2];exact Zab zbr _
   have PA:Hid (Za1 W2 W1.heap.size 24 (.string l.atom.pred) (.slice al nl cl)):=by show _=_;rw[hW2];exact heap_alloc_new W1 _
   obtain⟨p9,hp9⟩:∃q,W1.heap.size=q:=⟨_,rfl⟩
   rw[hp9] at PA
   have X2:Hid (Ext w0 W2):=Zaa X1.out E2.out
   have BS:Hid (∀W3,Ext W2 W3→Calls Tryz.prog 165 #[.slice as_ nb cs,.int .i64 i] W3 fun e' w'=>e'=.returned (.pointer (some ⟨bb,0,none⟩))∧w'=W3):=fun W3 hw=>Zrh as_ nb cs bb i W3 (hbs.ext (Zaa X2.out hw)) hin
   have RA:Hid (∀W3,Ext W2 W3→Calls Tryz.prog 167 #[ZdZ l.atom al nl cl,.pointer (some ⟨bb,0,none⟩)] W3 fun e' w'=>∃v,e'=.returned v∧Zci W3 w' rs v):=fun W3 hw=>by
    rw[←hrs]
    exact Zn1 lod bb dl l.atom al nl cl W3 (hD.ext (Zaa X2.out hw)) hdl hnl
   have UN:Hid (∀W3 a3 c3,Ext W2 W3→ZfW W3 a3 c3 rs→Calls Tryz.prog 166 #[ZdZ l.atom al nl cl,.slice a3 rs.length c3,ZeB an n cn av cv] W3 fun e' w'=>∃v,e'=.returned v∧(∃ps,Zfg W3.heap.size w' v U ps)∧Ext W3 w'):=fun W3 a3 c3 hw hr=>by
    have:=Zp2 l.atom al nl cl rs a3 c3 e.1 e.2 an n cn av cv W3 (g8.keep (Zaa X2.out hw)) (by omega) hr (fun r hr=>by rw[←hrs] at hr;exact(ZcJ r hr).trans hnl) (h1.keep (Zaa E1.out (Zaa E2.out hw))) (h2.keep (Zaa E1.out (Zaa E2.out hw))) hz1 hz2 (by omega)
    rw[hU] at this
    exact this.mono fun e' w' ⟨v,ps,q1,q2,q3⟩=>⟨v,q1,⟨ps,q2⟩,q3⟩
   have HF6:=zh hfew
   have HUL:=zh hUl
   have HUM:=zh hUm
   have HOUT:=zh hout
   have HLO:=zh hlo
   have HPW:=zh hpw
   have HNM:=zh hn
   have KK:Hid (∀W3,Ext W2 W3→W3.cell? ⟨p9,0,none⟩=some (.string l.atom.pred)∧W3.cell? ⟨p9,1,none⟩=some (.slice al nl cl)∧W3.cell? ⟨pw,3,none⟩=some (.slice as_ nb cs)∧W3.cell? ⟨p5,0,none⟩=some (.slice an n cn)∧W3.cell? ⟨p5,1,none⟩=some (.slice av n cv)):=fun W3 hw=>⟨(PA.out.ext hw).c0,(PA.out.ext hw).c1,Zac (Zaa E2.out hw) WV.out.c3,(P5.out.ext (Zaa E2.out hw)).c0,(P5.out.ext (Zaa E2.out hw)).c1⟩
   obtain⟨k1,k2,k3,k4,k5⟩:=KK.out _ zbr
   obtain⟨j1,j2,j3,j4,j5⟩:=KK.out _ (Zaf zbr)
   clear h1 h2 hz1 hz2 hout hk hE hW hlo hb hbs hD g0 g1 g2 g3 g4 g5 g6 g7 g8 g9 hx hd hfew hUl hUm hU hrs hnl
   go_enter Tryz.func145,Tryz.ntmps145
   go_upto_region 1 with (fail)
   rw[←hW1]
   clear hW1 hp5
   go_upto_region 16 with (fail)
   rw[←hW2]
   clear hW2 hp9
   go_wp2
   go_region_held3 (fun w'=>w'.cell? ⟨p9,0,none⟩=some (.string l.atom.pred)∧w'.cell? ⟨p9,1,none⟩=some (.slice al nl cl)∧w'.cell? ⟨pw,3,none⟩=some (.slice as_ nb cs)∧w'.cell? ⟨p5,0,none⟩=some (.slice an n cn)∧w'.cell? ⟨p5,1,none⟩=some (.slice av n cv))
    (with_reducible (first|go_keep|exact⟨k1,k2,k3,k4,k5⟩|exact⟨j1,j2,j3,j4,j5⟩|exact KK.out _ e4|exact KK.out _ e6))
    (first
     |(go_at_call 165;(with_reducible refine(BS.out _ (Zaf zbr)).mono ?_);rintro e' w3 ⟨rfl,rfl⟩)
     |(go_at_call 167;(with_reducible refine(RA.out _ (Zaf zbr)).mono ?_);rintro e' w3 ⟨v3,rfl,us3,o3,r3,e3⟩;obtain⟨a3,c3,rfl,_⟩:=Zag o3;have e4:Ext W2 w3:=Zaa (Zaf zbr) e3;have rl3:ZfW w3 a3 c3 rs:=⟨Nat.le_trans HF6.out (by decide),_,us3,o3,r3⟩)
     |(go_at_call 166;(with_reducible refine(UN.out _ _ _ e4 rl3).mono ?_);rintro e' w5 ⟨v5,rfl,⟨ps5,st5⟩,e5⟩;have e6:Ext W2 w5:=Zaa e4 e5)
     |fail)
   go_wp2
   obtain⟨a5,c5,rfl,_⟩:=Zag st5.own
   obtain⟨N,hN⟩:∃N,U.length=N:=⟨_,rfl⟩
   have HN:=zh hN
   have X5:Hid (Ext w0 w5):=Zaa X2.out e6
   have E5:Hid (Ext W w5):=Zaa E1.out (Zaa E2.out e6)
   have V5:Hid (ZeC w5 lo pw (some ⟨b,o,none⟩) nb cb as_ cs out):=WV.out.ext (Zaa E2.out e6)
   have ST:=zh st5
   have L5:Hid (lo≤w5.heap.size):=Nat.le_trans HLO.out E5.out.size
   have hNb:N≤65536:=by have:=HUL.out;omega
   rw[hN]
   clear hN st5 e3 e4 e5 e6 rl3 o3 r3 k1 k2 k3 k4 k5 j1 j2 j3 j4 j5 c2 p50 p51 y0 y1 y2
   go_loopw [11] (fun u wj=>∃k:Nat,k≤N∧u=.int .i64 k∧ZeC wj lo pw (some ⟨b,o,none⟩) nb cb as_ cs (out++(U.take k).flatMap (Zcx dl body (body.drop (i+1))))∧Zi4 lo pw w5 wj∧Ext w0 wj) (fun u _=>N-(intOf u).toNat)
   case atStart=>exact⟨0,by omega,rfl,by simpa using V5.out,Zi4.ext zbr,X5.out⟩
   case round=>
    obtain⟨k,hk,rfl,hv,ho,hE⟩:=hrel
    have HV:=zh hv
    have HO:=zh ho
    have HE:=zh hE
    have S5:=zh (ho.envs V5.out.ty ST.out)
    clear hv ho hE
    by_cases hlt:k<N
    ·have hki:(k:Int)<(N:Int):=by omega
     obtain⟨x,hx⟩:∃x,U[k]? =some x:=⟨_,zge (by have:=HN.out;omega)⟩
     obtain⟨hxl,g,a1,c1,a2,c2,rfl,x1,x2,x3,x4,x5,x6⟩:=S5.out.env hx
     have hm:=HUM.out x (zmg hx)
     have HNX:Hid ((U.take (k+1)).flatMap (Zcx dl body (body.drop (i+1)))=(U.take k).flatMap (Zcx dl body (body.drop (i+1)))++Zcx dl body (body.drop (i+1)) x):=Zn6 hx
     have CALL:Hid (Calls Tryz.prog 145 #[.pointer (some ⟨pw,0,none⟩),.int .i64 ((i:Int)+1),ZeB a1 x.1.length c1 a2 c2] wr (Zdq w0 lo pw (some ⟨b,o,none⟩) nb cb as_ cs (out++(U.take k).flatMap (Zcx dl body (body.drop (i+1)))++Zcx dl body (body.drop (i+1)) x) wr)):=by
      have hsz:=HO.out.size
      have hl5:=L5.out
      refine IH.out (i+1) (by have:=HIM.out;omega) x x.1.length a1 c1 a2 c2 _ wr HE.out HV.out (by omega) x3 x4 x5 x6 (by have:=HNM.out;have:=hm.2;omega) ?_
      have h1:=HOUT.out
      have h2:=Zn5 U (Zcx dl body (body.drop (i+1))) (k+1)
      rw[HNX.out] at h2
      rw[List.length_append] at h1 h2
      rw[List.append_assoc,List.length_append,List.length_append]
      omega
     clear hx hxl x3 x4 x5 x6 hm
     go_wp2_with (go_at_call 145;(with_reducible refine CALL.out.mono ?_);rintro e' w7 ⟨rfl,v7,o7,e7⟩)
     go_roundw
     case rel=>exact⟨k+1,by omega,by go_num,by rw[HNX.out,←List.append_assoc];exact v7,HO.out.trans o7,e7⟩
     case measure=>simp[intOf];omega
    ·obtain rfl:k=N:=by omega
     have hge:¬(k:Int)<(k:Int):=by omega
     go_wp2
     go_returns
     have tk:U.take k=U:=List.take_of_length_le (by have:=HN.out;omega)
     have hv:=HV.out
     rw[tk] at hv
     exact⟨rfl,hv,(Zi4.ext E5.out).trans HO.out,HE.out⟩
  ·rw[if_neg hk] at hout ⊢
   have q1:(l.kind != 1)=true:=by simpa using hk
   have CALL:Hid (Calls Tryz.prog 145 #[.pointer (some ⟨pw,0,none⟩),.int .i64 ((i:Int)+1),ZeB an n cn av cv] W1 (Zdq w0 lo pw (some ⟨b,o,none⟩) nb cb as_ cs (out++Zcx dl body (body.drop (i+1)) e) W1)):=by
    have:=IH.out (i+1) (by omega) e n an cn av cv out W1 X1.out WV.out (Nat.le_trans hlo E1.out.size) (h1.keep E1.out) (h2.keep E1.out) hz1 hz2 (by omega) hout
    exact this
   clear h1 h2 hz1 hz2 hout hk hE hW hlo hb hbs hD g0 g1 g2 g3 g4 g5 g6 g7 g8 g9 hx hd
   go_enter Tryz.func145,Tryz.ntmps145
   go_upto_region 1 with (fail)
   rw[←hW1]
   clear hW1 hp5
   go_wp2_with (go_at_call 145;(with_reducible refine CALL.out.mono ?_);rintro e' w2 ⟨rfl,v2,o2,e2⟩)
   go_returns
   exact⟨rfl,v2,(Zi4.ext E1.out).trans o2,e2⟩
abbrev ZeR (r:ZaQ)(ah:Option Addr)(nh ch:Nat)(ab:Option Addr)(nb cb:Nat):Value:=.agg #[.string r.head.pred,.slice ah nh ch,.slice ab nb cb]
theorem Zri {l:K.Lit}(h:Zbf l=true)(hk:l.kind=1∨l.kind=2):l.atom.terms.length≤64:=by
 unfold Zbf at h
 rw[if_pos hk,Bool.and_eq_true] at h
 exact of_decide_eq_true h.1
theorem ZfX {r:ZaQ}(h:Zap r=0){l:K.Lit}(hl:l∈r.body):Zbf l=true:=by
 rw[Zgj] at h
 split at h
 ·cases h
 ·rename_i hp
  have hp:Zcs r=true:=by simpa using hp
  unfold Zcs at hp
  rw[Bool.and_eq_true,List.all_eq_true] at hp
  exact hp.2 l hl
def ZbS (r:ZaQ)(dl:List Za7):List (List ByteArray):=Zcx dl r.body r.body ([],[])
theorem Zp4:(Tryz.prog.info? 36).map (fun i=>(i.zero,i.size,i.bytes))=some (some (.pointer none),1,8):=by kernel_rfl
theorem Zsg (r:ZaQ)(ah:Option Addr)(nh ch:Nat)(ab:Option Addr)(nb cb:Nat)(as_:Option Addr)(cs lod bb:Nat)(dl:List Za7)(w:World)(hr:ZaR w r ah nh ch ab nb cb)(hv:(Zad r).length≤1000000)(hbs:ZeI w as_ nb bb)(hD:ZaU w lod bb dl)(hdl:dl.length≤1000000)(hck:Zap r=0)(hnb:nb≤1000)(hout:(ZbS r dl).length≤1000000):
  Calls Tryz.prog 118 #[ZeR r ah nh ch ab nb cb,.slice as_ nb cs,.int .i64 4611686018427387904] w fun e w'=>∃v,e=.returned (.tuple #[v,.bool true])∧Zdo w.heap.size w' (ZbS r dl) v∧Ext w w':=by
 obtain⟨W1,hW1⟩:∃W1,W1=(w.alloc (.cells #[.string r.head.pred,.slice ah nh ch,.slice ab nb cb] 27)).alloc (.cells #[.string r.head.pred,.slice ah nh ch,.slice ab nb cb,.slice as_ nb cs,.int .i64 4611686018427387904,.slice none 0 0] 214):=⟨_,rfl⟩
 have E1:Hid (Ext w W1):=by show Ext _ _;rw[hW1];exact Zab (Zab zbr _) _
 have SZ:Hid (W1.heap.size=w.heap.size+2):=by show _=_;rw[hW1];simp
 have HB:Hid (W1.heap[w.heap.size+1]? =some (.cells #[.string r.head.pred,.slice ah nh ch,.slice ab nb cb,.slice as_ nb cs,.int .i64 4611686018427387904,.slice none 0 0] 214 (0,0))):=by
  show _=_;rw[hW1]
  have:=heap_alloc_new (w.alloc (.cells #[.string r.head.pred,.slice ah nh ch,.slice ab nb cb] 27)) (.cells #[.string r.head.pred,.slice ah nh ch,.slice ab nb cb,.slice as_ nb cs,.int .i64 4611686018427387904,.slice none 0 0] 214)
  simpa using this
 have HA:Hid (W1.heap[w.heap.size]? =some (.cells #[.string r.head.pred,.slice ah nh ch,.slice ab nb cb] 27 (0,0))):=by
  show _=_;rw[hW1];exact((Zab zbr _).block _ (by simp)).trans (heap_alloc_new w _)
 obtain⟨p,hp⟩:∃p,w.heap.size=p:=⟨_,rfl⟩
 have HP:=zh hp
 rw[hp] at SZ HB HA
 obtain⟨pw,hpw⟩:∃q,p+1=q:=⟨_,rfl⟩
 rw[hpw] at HB
 have HPW:=zh hpw
 have WV:Hid (ZeC W1 (pw+1) pw ab nb cb as_ cs []):=by
  have h:=HB.out
  exact⟨by omega,⟨_,_,h⟩,by simp[World.cell?,h],by simp[World.cell?,h],by simp[World.cell?,h],by simp[World.frozen?,h],none,0,[],by simp[World.cell?,h],World.ownsRow_nil _ _ _ _,rfl,fun i r v h=>by cases h⟩
 have r0:W1.cell? ⟨p,0,none⟩=some (.string r.head.pred):=by have h:=HA.out;simp[World.cell?,h]
 have r1:W1.cell? ⟨p,1,none⟩=some (.slice ah nh ch):=by have h:=HA.out;simp[World.cell?,h]
 have r2:W1.cell? ⟨p,2,none⟩=some (.slice ab nb cb):=by have h:=HA.out;simp[World.cell?,h]
 have CK:Hid (Calls Tryz.prog 32 #[.agg #[.string r.head.pred,.slice ah nh ch,.slice ab nb cb]] W1 fun e w'=>e=.returned (.int .i64 0)∧Ext W1 w'):=by
  have:=ZgU r ah nh ch ab nb cb W1 (hr.keep E1.out) hv
  unfold Zb5 at this
  rw[hck] at this
  exact this
 have FR:Hid (∀W,Ext W1 W→Calls Tryz.prog 145 #[.pointer (some ⟨pw,0,none⟩),.int .i64 0,.agg #[.slice none 0 0,.slice none 0 0]] W (Zdq w (pw+1) pw ab nb cb as_ cs (ZbS r dl) W)):=fun W hW=>by
  have hs:Zai W none 0 []:=⟨Nat.zero_le _,rfl,fun i x h=>by simp at h⟩
  have hszW:=hW.size
  have:=ZtK r.body ab nb cb as_ cs (pw+1) pw lod bb dl w hr.body hbs hD hdl (fun l hl hk=>Zri (ZfX hck hl) hk) (by have:=HP.out;have:=HPW.out;omega) nb 0 (by omega) ([],[]) 0 none 0 none 0 [] W (Zaa E1.out hW) (WV.out.ext hW) (by have:=SZ.out;have:=HPW.out;omega) hs hs (fun _=>⟨rfl,rfl⟩) (fun _=>⟨rfl,rfl⟩) (by omega) (by simpa [ZbS] using hout)
  simpa [ZbS] using this
 clear hr hv hbs hD hck hout HA HB
 go_enter Tryz.func118,Tryz.ntmps118
 go_upto_region 2 with (fail)
 rw[←hW1]
 clear hW1 hp hpw
 go_wp2_with (first
  |(go_at_call 32;(with_reducible refine CK.out.mono ?_);rintro e w2 ⟨rfl,e2⟩)
  |(go_at_call 145;(with_reducible refine(FR.out _ e2).mono ?_);rintro e w3 ⟨rfl,v3,o3,e3⟩;obtain⟨ao,co,us,q1,q2,q3⟩:=v3.row))
 go_returns
 refine⟨_,rfl,⟨us,Zao q2 (by have:=HP.out;have:=HPW.out;omega),q3.1,fun i r v a b=>Zao (q3.2 i r v a b) (by have:=HP.out;have:=HPW.out;omega)⟩,e3⟩
theorem ZtL (r:ZaQ)(ah:Option Addr)(nh ch:Nat)(ab:Option Addr)(nb cb:Nat)(as_:Option Addr)(cs lod bb:Nat)(dl:List Za7)(w:World)(hr:ZaR w r ah nh ch ab nb cb)(hv:(Zad r).length≤1000000)(hbs:ZeI w as_ nb bb)(hD:ZaU w lod bb dl)(hdl:dl.length≤1000000)(hck:Zap r=0)(hnb:nb≤1000)(hout:(ZbS r dl).length≤1000000):
  Calls Tryz.prog 78 #[ZeR r ah nh ch ab nb cb,.slice as_ nb cs] w fun e w'=>∃v,e=.returned v∧Zdo w.heap.size w' (ZbS r dl) v∧Ext w w':=by
 have EA:Hid (∀o,Ext w (w.alloc o)):=fun o=>Zab zbr o
 have FI:Hid (∀o,Calls Tryz.prog 118 #[ZeR r ah nh ch ab nb cb,.slice as_ nb cs,.int .i64 4611686018427387904] (w.alloc o) fun e w'=>∃v,e=.returned (.tuple #[v,.bool true])∧Zdo (w.alloc o).heap.size w' (ZbS r dl) v∧Ext (w.alloc o) w'):=fun o=>Zsg r ah nh ch ab nb cb as_ cs lod bb dl _ (hr.keep (EA.out o)) hv (hbs.ext (EA.out o)) (hD.ext (EA.out o)) hdl hck hnb hout
 clear hr hv hbs hD hck hout
 go_enter Tryz.func78,Tryz.ntmps78
 go_wp2_with (go_at_call 118;(with_reducible refine(FI.out _).mono ?_);rintro e w2 ⟨v,rfl,hv,e2⟩)
 go_returns
 obtain⟨us,q1,q2⟩:=hv
 exact⟨_,rfl,⟨us,Zao q1 (EA.out _).size,q2.1,fun i r v a b=>Zao (q2.2 i r v a b) (EA.out _).size⟩,Zaa (EA.out _) e2⟩
theorem ZtM (r:ZaQ)(ah:Option Addr)(nh ch:Nat)(ab:Option Addr)(nb cb:Nat)(lod bb:Nat)(dl:List Za7)(w:World)(hr:ZaR w r ah nh ch ab nb cb)(hv:(Zad r).length≤1000000)(hD:ZaU w lod bb dl)(hdl:dl.length≤1000000)(hck:Zap r=0)(hnb:nb≤1000)(hout:(ZbS r dl).length≤1000000):
  Calls Tryz.prog 35 #[ZeR r ah nh ch ab nb cb,.pointer (some ⟨bb,0,none⟩)] w fun e w'=>∃v,e=.returned v∧Zdo w.heap.size w' (ZbS r dl) v∧Ext w w':=by
 obtain⟨i0,hinf,hz0,hzs1,hzs2⟩:=info_parts Zp4
 obtain⟨W1,hW1⟩:∃W1,W1=w.alloc (.cells #[.string r.head.pred,.slice ah nh ch,.slice ab nb cb] 27):=⟨_,rfl⟩
 have E1:Hid (Ext w W1):=by show Ext _ _;rw[hW1];exact Zab zbr _
 obtain⟨p,hp⟩:∃p,w.heap.size=p:=⟨_,rfl⟩
 have HA:Hid (W1.heap[p]? =some (.cells #[.string r.head.pred,.slice ah nh ch,.slice ab nb cb] 27 (0,0))):=by
  show _=_;rw[hW1,←hp];exact heap_alloc_new w _
 have RC:Hid (∀W,Ext W1 W→W.cell? ⟨p,0,none⟩=some (.string r.head.pred)∧W.cell? ⟨p,1,none⟩=some (.slice ah nh ch)∧W.cell? ⟨p,2,none⟩=some (.slice ab nb cb)):=fun W hW=>by
  have h:=(hW.block p (zag HA.out).1).trans HA.out
  exact⟨by simp[World.cell?,h],by simp[World.cell?,h],by simp[World.cell?,h]⟩
 have OV:Hid (∀W a c,Ext W1 W→ZeI W a nb bb→Calls Tryz.prog 78 #[ZeR r ah nh ch ab nb cb,.slice a nb c] W fun e w'=>∃v,e=.returned v∧Zdo W.heap.size w' (ZbS r dl) v∧Ext W w'):=fun W a c hW hb=>ZtL r ah nh ch ab nb cb a c lod bb dl W (hr.keep (Zaa E1.out hW)) hv hb (hD.ext (Zaa E1.out hW)) hdl hck hnb hout
 clear hr hv hD hck hout
 go_enter Tryz.func35,Tryz.ntmps35
 go_wp2
 rw[←hW1]
 clear hW1 hp
 go_loopw [5,6] (fun v u wj=>∃k:Nat,k≤nb∧u=.int .i64 k∧wj.ownsRow W1.heap.size 36 1 v k (List.replicate k (.pointer (some ⟨bb,0,none⟩)))∧Ext W1 wj) (fun _ u _=>nb-(intOf u).toNat)
 case atStart=>exact⟨0,by omega,rfl,World.ownsRow_nil _ _ _ _,Below.refl _ _⟩
 case round=>
  obtain⟨k,hk,rfl,own,hE⟩:=hrel
  have HE:=zh hE
  have OW:=zh own
  obtain⟨a5,c5,rfl,_⟩:=Zag own
  obtain⟨k0,k1,k2⟩:=RC.out _ hE
  clear own hE
  by_cases hlt:k<nb
  ·have hki:(k:Int)<(nb:Int):=by omega
   have B1:Hid (k+1≤maxLen):=by show _≤_;unfold maxLen;omega
   have B2:Hid ((k+1)*8≤140737488355328):=by show _≤_;omega
   go_wp2_with (at_builtin;(refine ZaD rfl _ _ 135 rfl W1.heap.size 36 i0 (.pointer none) 8 Tryz.underlying135 hinf hz0 hzs1 hzs2 rfl _ _ _ rfl (Zar OW.out (Zab zbr _)) _ 1 _ rfl (Zhx.box _ _ _ rfl) rfl B1.out B2.out (Nat.le_trans HE.out.size (by simp)) ?_);intro v3 w3 own3 g3)
   go_roundw
   case rel=>exact⟨k+1,by omega,by go_num,by rw[List.replicate_succ'];exact own3,Zaz (Zab HE.out _) g3 (fun g e=>(OW.out.lt g e).1)⟩
   case measure=>simp[intOf];omega
  ·obtain rfl:k=nb:=by omega
   have hge:¬(k:Int)<(k:Int):=by omega
   have BD:Hid (ZeI wr a5 k bb):=⟨by omega,fun i hi=>by
    obtain⟨g,e,h⟩:=Zd7 OW.out (k:=i) (v:=.pointer (some ⟨bb,0,none⟩)) (by rw[List.getElem?_replicate,if_pos hi])
    exact⟨g,0,e,by rw[Nat.zero_add];exact h⟩⟩
   go_wp2_with (go_at_call 78;(with_reducible refine(OV.out _ _ _ HE.out BD.out).mono ?_);rintro e w4 ⟨v4,rfl,r4,e4⟩)
   go_returns
   have hz:=(Zaa E1.out HE.out).size
   obtain⟨us,q1,q2⟩:=r4
   exact⟨_,rfl,⟨us,Zao q1 hz,q2.1,fun i r v a b=>Zao (q2.2 i r v a b) hz⟩,Zaa (Zaa E1.out HE.out) e4⟩
theorem ZtN (r:ZaQ)(ah:Option Addr)(nh ch:Nat)(ab:Option Addr)(nb cb:Nat)(w:World)(hr:ZaR w r ah nh ch ab nb cb)(hv:(Zad r).length≤1000000)(hck:Zap r=0):
  Calls Tryz.prog 79 #[ZeR r ah nh ch ab nb cb] w fun e w'=>∃v,e=.returned v∧ZdM w w' (Zad r) v:=by
 have EA:Hid (∀o,Ext w (w.alloc o)):=fun o=>Zab zbr o
 have CK:Hid (∀o,Calls Tryz.prog 32 #[.agg #[.string r.head.pred,.slice ah nh ch,.slice ab nb cb]] (w.alloc o) fun e w'=>e=.returned (.int .i64 0)∧Ext (w.alloc o) w'):=fun o=>by
  have:=ZgU r ah nh ch ab nb cb (w.alloc o) (hr.keep (EA.out o)) hv
  unfold Zb5 at this
  rw[hck] at this
  exact this
 have NM:Hid (∀W,Ext w W→Calls Tryz.prog 46 #[.agg #[.string r.head.pred,.slice ah nh ch,.slice ab nb cb]] W fun e w'=>∃v,e=.returned v∧ZdM W w' (Zad r) v):=fun W hW=>Zip r ah nh ch ab nb cb W (hr.keep hW) hv
 clear hr hv hck
 go_enter Tryz.func79,Tryz.ntmps79
 go_wp2_with (first
  |(go_at_call 32;(with_reducible refine(CK.out _).mono ?_);rintro e w2 ⟨rfl,e2⟩;have c0:=Zac e2 (show (w.alloc (.cells #[.string r.head.pred,.slice ah nh ch,.slice ab nb cb] 27)).cell? ⟨w.heap.size,0,none⟩=some (.string r.head.pred) by go_simp);have c1:=Zac e2 (show (w.alloc (.cells #[.string r.head.pred,.slice ah nh ch,.slice ab nb cb] 27)).cell? ⟨w.heap.size,1,none⟩=some (.slice ah nh ch) by go_simp);have c2:=Zac e2 (show (w.alloc (.cells #[.string r.head.pred,.slice ah nh ch,.slice ab nb cb] 27)).cell? ⟨w.heap.size,2,none⟩=some (.slice ab nb cb) by go_simp))
  |(go_at_call 46;(with_reducible refine(NM.out _ (Zaa (EA.out _) e2)).mono ?_);rintro e w3 ⟨v,rfl,own3,e3⟩))
 go_returns
 have hz:=(Zaa (EA.out _) e2).size
 exact⟨_,rfl,Zao own3 hz,Zaa (Zaa (EA.out _) e2) e3⟩
def Zbd (ns x:List ByteArray)(out:List ByteArray)(t:ZaG):List ByteArray:=if t.kind<4 then out++[ZcI ns x t] else out
def Zfi (r:ZaQ)(x:List ByteArray):List ByteArray:=r.head.terms.foldl (Zbd (Zad r) x) []
theorem Zfj (ns x:List ByteArray)(ts:List ZaG):∀out:List ByteArray,(ts.foldl (Zbd ns x) out).length≤out.length+ts.length:=by
 induction ts with
 |nil=>intro out;simp
 |cons t ts ih=>
  intro out
  rw[List.foldl_cons,List.length_cons]
  have:=ih (Zbd ns x out t)
  have h2:(Zbd ns x out t).length≤out.length+1:=by unfold Zbd;split <;> simp
  omega
theorem ZtO (r:ZaQ)(ah:Option Addr)(nh ch:Nat)(ab:Option Addr)(nb cb:Nat)(x:List ByteArray)(ax:Option Addr)(n cx:Nat)(w:World)(hr:ZaR w r ah nh ch ab nb cb)(hv:(Zad r).length≤1000000)(hck:Zap r=0)(hx:Zai w ax n x)(hn:(Zad r).length=n)(hnh:nh≤64):
  Calls Tryz.prog 37 #[ZeR r ah nh ch ab nb cb,.slice ax n cx] w fun e w'=>∃v,e=.returned (.tuple #[v,.int .i64 0])∧w'.ownsRow w.heap.size 9 1 v (Zfi r x).length ((Zfi r x).map Value.string)∧Ext w w':=by
 obtain⟨i0,hinf,hz0,hzs1,hzs2⟩:=info_parts ZbI
 obtain⟨W1,hW1⟩:∃W1,W1=w.alloc (.cells #[.string r.head.pred,.slice ah nh ch,.slice ab nb cb] 27):=⟨_,rfl⟩
 have E1:Hid (Ext w W1):=by show Ext _ _;rw[hW1];exact Zab zbr _
 obtain⟨p,hp⟩:∃p,w.heap.size=p:=⟨_,rfl⟩
 have HA:Hid (W1.heap[p]? =some (.cells #[.string r.head.pred,.slice ah nh ch,.slice ab nb cb] 27 (0,0))):=by
  show _=_;rw[hW1,←hp];exact heap_alloc_new w _
 have RC:Hid (∀W,Ext W1 W→W.cell? ⟨p,0,none⟩=some (.string r.head.pred)∧W.cell? ⟨p,1,none⟩=some (.slice ah nh ch)∧W.cell? ⟨p,2,none⟩=some (.slice ab nb cb)):=fun W hW=>by
  have h:=(hW.block p (zag HA.out).1).trans HA.out
  exact⟨by simp[World.cell?,h],by simp[World.cell?,h],by simp[World.cell?,h]⟩
 have CK:Hid (∀W,Ext W1 W→Calls Tryz.prog 32 #[.agg #[.string r.head.pred,.slice ah nh ch,.slice ab nb cb]] W fun e w'=>e=.returned (.int .i64 0)∧Ext W w'):=fun W hW=>by
  have:=ZgU r ah nh ch ab nb cb W (hr.keep (Zaa E1.out hW)) hv
  unfold Zb5 at this
  rw[hck] at this
  exact this
 have NM:Hid (Calls Tryz.prog 46 #[.agg #[.string r.head.pred,.slice ah nh ch,.slice ab nb cb]] W1 fun e w'=>∃v,e=.returned v∧ZdM W1 w' (Zad r) v):=Zip r ah nh ch ab nb cb W1 (hr.keep E1.out) hv
 have HR:=zh hr
 have HLH:=zh hr.terms.2.1
 have HX:=zh hx
 obtain⟨c0,c1,c2⟩:=RC.out _ zbr
 have hnn:((n:Int) != (n:Int))=false:=by simp
 rw[hn] at hv
 have HN:=zh hn
 clear hr hck hx hn
 go_enter Tryz.func37,Tryz.ntmps37
 go_upto_region 1 with (fail)
 rw[←hW1]
 clear hW1 hp
 go_upto_region 5 with (first
  |(go_at_call 46;(with_reducible refine NM.out.mono ?_);rintro e w2 ⟨v2,rfl,own2,e2⟩;obtain⟨a2,c2',rfl,_⟩:=Zag own2;rw[HN.out] at own2 ⊢;obtain⟨d0,d1,d2⟩:=RC.out _ e2)
  |(go_at_call 32;(with_reducible refine(CK.out _ e2).mono ?_);rintro e w3 ⟨rfl,e3⟩;obtain⟨f0,f1,f2⟩:=RC.out _ (Zaa e2 e3)))
 have E13:Hid (Ext W1 w3):=Zaa e2 e3
 obtain⟨W4,hW4⟩:∃W4,w3.alloc (.cells #[.slice a2 n c2',.slice ax n cx] 138)=W4:=⟨_,rfl⟩
 have E34:Hid (Ext w3 W4):=by show Ext _ _;rw[←hW4];exact Zab zbr _
 have E14:Hid (Ext W1 W4):=Zaa E13.out E34.out
 have EW4:Hid (Ext w W4):=Zaa E1.out E14.out
 obtain⟨p7,hp7⟩:∃q,w3.heap.size=q:=⟨_,rfl⟩
 have P7:Hid (Za1 W4 p7 138 (.slice a2 n c2') (.slice ax n cx)):=by show _=_;rw[←hW4,←hp7];exact heap_alloc_new w3 _
 have SN:Hid (Zai W4 a2 n (Zad r)):=by
  have h1:=Zar own2 (Zaa e3 E34.out)
  exact ZaL h1 (Za4 h1).1
 have SX:Hid (Zai W4 ax n x):=HX.out.keep EW4.out
 rw[hW4,hp7]
 clear hW4 hp7 own2 e2 e3 d0 d1 d2 f0 f1 f2 c0 c1 c2
 go_wp2
 go_loopw [8,9] (fun v u wj=>∃k:Nat,k≤nh∧u=.int .i64 k∧wj.ownsRow W4.heap.size 9 1 v ((r.head.terms.take k).foldl (Zbd (Zad r) x) []).length (((r.head.terms.take k).foldl (Zbd (Zad r) x) []).map Value.string)∧Ext W4 wj) (fun _ u _=>nh-(intOf u).toNat)
 case atStart=>exact⟨0,by omega,rfl,World.ownsRow_nil _ _ _ _,Below.refl _ _⟩
 case round=>
  obtain⟨k,hk,rfl,own,hE⟩:=hrel
  have HE:=zh hE
  have EW:Hid (Ext w wr):=Zaa EW4.out hE
  have HLN:Hid (((r.head.terms.take k).foldl (Zbd (Zad r) x) []).length≤k):=by
   have:=Zfj (Zad r) x (r.head.terms.take k) []
   rw[List.length_take,List.length_nil] at this
   show _≤_
   omega
  have HST:Hid (∀t,r.head.terms[k]? =some t→(r.head.terms.take (k+1)).foldl (Zbd (Zad r) x) []=Zbd (Zad r) x ((r.head.terms.take k).foldl (Zbd (Zad r) x) []) t):=fun t h=>by
   rw[ZaA h,List.foldl_append]
   rfl
  obtain⟨F,hF⟩:∃F,(r.head.terms.take k).foldl (Zbd (Zad r) x) []=F:=⟨_,rfl⟩
  have HF:=zh hF
  rw[hF] at own HLN HST
  obtain⟨L,hL⟩:∃L,F.length=L:=⟨_,rfl⟩
  have HL:=zh hL
  rw[hL] at own HLN
  have OW:=zh own
  obtain⟨ao,co,rfl,_⟩:=Zag own
  obtain⟨k0,k1,k2⟩:=RC.out _ (Zaa E14.out hE)
  clear own hE hF hL
  by_cases hlt:k<nh
  ·have hki:(k:Int)<(nh:Int):=by omega
   obtain⟨t,bt,ot,hx,rfl,hc1,hc2,hc3⟩:=(HR.out.terms.keep EW.out).2.at hlt
   have HX2:=zh hx
   have HS2:=zh (HST.out t hx)
   have EA:Hid (∀o,Ext W4 (wr.alloc o)):=fun o=>Zab HE.out o
   have q7:=fun o=>(P7.out.ext (EA.out o)).c0
   have q8:=fun o=>(P7.out.ext (EA.out o)).c1
   have VL:Hid (∀o,Calls Tryz.prog 83 #[ZeB a2 n c2' ax cx,.agg #[.int .i64 t.kind,.string t.text]] (wr.alloc o) fun e w'=>e=.returned (.string (ZcI (Zad r) x t))∧Ext (wr.alloc o) w'):=fun o=>Zky (Zad r) x t a2 n c2' ax cx _ (SN.out.keep (EA.out o)) (SX.out.keep (EA.out o))
   have B1:Hid (L+1≤maxLen):=by have:=HLN.out;show _≤_;unfold maxLen;omega
   have B2:Hid ((L+1)*16≤140737488355328):=by have:=HLN.out;show _≤_;omega
   clear hx
   by_cases h4:t.kind<4
   ·have HS3:Hid (Zbd (Zad r) x F t=F++[ZcI (Zad r) x t]):=by show _=_;unfold Zbd;rw[if_pos h4]
    go_wp2_with (first
     |(go_at_call 83;(with_reducible refine(VL.out _).mono ?_);rintro e w5 ⟨rfl,e5⟩;have e6:=Zaa (Zab (Below.refl _ wr) _) e5)
     |(at_builtin;(refine ZaD rfl _ _ 54 rfl W4.heap.size 9 i0 (.string ⟨#[]⟩) 16 Tryz.underlying54 hinf hz0 hzs1 hzs2 rfl _ _ _ rfl (Zar OW.out (Zab e6 _)) _ 1 _ rfl (Zhx.box _ _ _ rfl) rfl B1.out B2.out (Nat.le_trans HE.out.size (Nat.le_trans e6.size (by simp))) ?_);intro v7 w7 own7 g7))
    go_roundw
    case rel=>
     refine⟨k+1,by omega,by go_num,?_,Zaz (Zab (Zaa HE.out e6) _) g7 (fun g e=>(OW.out.lt g e).1)⟩
     rw[HS2.out,HS3.out,List.length_append,List.map_append,HL.out]
     exact own7
    case measure=>simp[intOf];omega
   ·have HS3:Hid (Zbd (Zad r) x F t=F):=by show _=_;unfold Zbd;rw[if_neg h4]
    go_wp2
    go_roundw
    case rel=>
     refine⟨k+1,by omega,by go_num,?_,EA.out _⟩
     rw[HS2.out,HS3.out,HL.out]
     exact Zar OW.out (Zab zbr _)
    case measure=>simp[intOf];omega
  ·obtain rfl:k=nh:=by omega
   have hge:¬(k:Int)<(k:Int):=by omega
   have HD:Hid (Zfi r x=F):=by
    show _=_
    have:=HF.out
    rw[List.take_of_length_le (by have:=HLH.out;omega)] at this
    exact this
   go_wp2
   go_returns
   refine⟨_,rfl,?_,EW.out⟩
   rw[HD.out,HL.out]
   exact Zao OW.out EW4.out.size
def ZfY (t:ZaG):Bool:=decide ((4:Int)≤t.kind)&&decide (t.kind≤7)
theorem ZuL (a:Zda)(at_:Option Addr)(nt ct:Nat)(w:World)(h:Zaq w at_ nt a.terms):
  Calls Tryz.prog 77 #[ZdZ a at_ nt ct] w fun e w'=>(∃i:Int,e=.returned (.tuple #[.int .i64 i,.bool (a.terms.any ZfY)]))∧Ext w w':=by
 obtain⟨W1,hW1⟩:∃W1,W1=w.alloc (.cells #[.string a.pred,.slice at_ nt ct] 24):=⟨_,rfl⟩
 have E1:Hid (Ext w W1):=by show Ext _ _;rw[hW1];exact Zab zbr _
 have C1:Hid (W1.cell? ⟨w.heap.size,1,none⟩=some (.slice at_ nt ct)):=by show _=_;rw[hW1];go_simp
 have HT:=zh h
 have HL:=zh h.2.1
 have hn:=h.1
 clear h
 go_enter Tryz.func77,Tryz.ntmps77
 go_wp2
 rw[←hW1]
 clear hW1
 obtain⟨p,hp⟩:∃p,w.heap.size=p:=⟨_,rfl⟩
 rw[hp] at C1 ⊢
 clear hp
 go_loopw [4] (fun u wj=>∃k:Nat,k≤nt∧u=.int .i64 k∧(a.terms.take k).any ZfY=false∧Ext W1 wj) (fun u _=>nt-(intOf u).toNat)
 case atStart=>exact⟨0,by omega,rfl,rfl,Below.refl _ _⟩
 case round=>
  obtain⟨k,hk,rfl,hq,hE⟩:=hrel
  have HQ:=zh hq
  have HE:=zh hE
  have EW:Hid (Ext w wr):=Zaa E1.out hE
  have c1:=Zac hE C1.out
  clear hq hE
  by_cases hlt:k<nt
  ·have hki:(k:Int)<(nt:Int):=by omega
   obtain⟨t,bt,ot,hx,rfl,hc1,hc2,hc3⟩:=(HT.out.keep EW.out).2.at hlt
   have HX:=zh hx
   have HTK:Hid (a.terms.take (k+1)=a.terms.take k++[t]):=ZaA hx
   obtain⟨q1,h1⟩:∃q,decide ((4:Int)≤t.kind)=q:=⟨_,rfl⟩
   obtain⟨q2,h2⟩:∃q,decide (t.kind≤7)=q:=⟨_,rfl⟩
   have HA:Hid (ZfY t=(q1&&q2)):=by show _=_;unfold ZfY;rw[h1,h2]
   clear hx
   cases q1 <;> cases q2
   case true.true=>
    have HY:Hid (a.terms.any ZfY=true):=List.any_eq_true.2 ⟨t,zmg HX.out,HA.out⟩
    go_wp2
    go_returns
    exact⟨⟨_,by rw[HY.out];rfl⟩,EW.out⟩
   all_goals
    go_wp2
    go_roundw
    case rel=>exact⟨k+1,by omega,by go_num,by rw[HTK.out,List.any_append,HQ.out];simp[HA.out],HE.out⟩
    case measure=>simp[intOf];omega
  ·obtain rfl:k=nt:=by omega
   have hge:¬(k:Int)<(k:Int):=by omega
   have HY:Hid (a.terms.any ZfY=false):=by
    have:=HQ.out
    rwa [List.take_of_length_le (by have:=HL.out;omega)] at this
   go_wp2
   go_returns
   exact⟨⟨_,by rw[HY.out];rfl⟩,EW.out⟩
theorem Zjx (r:ZaQ)(ah:Option Addr)(nh ch:Nat)(ab:Option Addr)(nb cb:Nat)(w:World)(hr:ZaR w r ah nh ch ab nb cb):
  Calls Tryz.prog 33 #[ZeR r ah nh ch ab nb cb] w fun e w'=>e=.returned (.bool (r.head.terms.any ZfY))∧Ext w w':=by
 have EA:Hid (∀o,Ext w (w.alloc o)):=fun o=>Zab zbr o
 have OF:Hid (∀o,Calls Tryz.prog 77 #[.agg #[.string r.head.pred,.slice ah nh ch]] (w.alloc o) fun e w'=>(∃i:Int,e=.returned (.tuple #[.int .i64 i,.bool (r.head.terms.any ZfY)]))∧Ext (w.alloc o) w'):=fun o=>ZuL r.head ah nh ch (w.alloc o) (hr.terms.keep (EA.out o))
 obtain⟨B,hB⟩:∃B,r.head.terms.any ZfY=B:=⟨_,rfl⟩
 rw[hB] at OF ⊢
 clear hr hB
 go_enter Tryz.func33,Tryz.ntmps33
 go_wp2_with (go_at_call 77;(with_reducible refine(OF.out _).mono ?_);rintro e w2 ⟨⟨i,rfl⟩,e2⟩)
 go_returns
 exact⟨rfl,Zaa (EA.out _) e2⟩
def Zdr (ns x:List ByteArray)(all:List Za7)(l:K.Lit)(q:List ByteArray):Bool:=(q.length==l.atom.terms.length)&&Zpx all l.atom.pred q&&(Zbh l.atom.terms q ns x).isSome
def Zfk (r:ZaQ)(x:List ByteArray)(all last:List Za7):Bool:=r.body.any fun l=>decide (l.kind=1)&&(ZaW last l.atom.pred).any (Zdr (Zad r) x all l)
