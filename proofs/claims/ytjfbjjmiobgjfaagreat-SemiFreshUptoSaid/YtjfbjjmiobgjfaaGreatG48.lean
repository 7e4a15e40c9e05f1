/- The walk of the law SemiFresh. -/
import Derived.Test.YtjfbjjmiobgjfaaGreatG45
import Derived.Test.YtjfbjjmiobgjfaaGreatG46
import Derived.Test.YtjfbjjmiobgjfaaGreatG47
import Derived.Lib.SmallJoins
set_option maxRecDepth 100000
set_option maxHeartbeats 8000000
namespace Go.Proofs.YtjfbjjmiobgjfaaGreat
open ChangeShapes WideShapes ChangeAt RowKit
open K (ZaG Zda ZaQ Zaq Zbl ZaR Zbw Zcm)
theorem Zga {W:World}{lo:Nat}{xs:List Zb3}{x:Zkb}(h:Zc7 W lo xs x):Calls Tryz.prog 11 #[.pointer (some ⟨x.bb,0,none⟩)] W fun e w'=>∃v,e=.returned v∧Znf W.heap.size w' (ZeA x.l) v∧Ext W w':=by
 refine(ZkP lo x.bb x.f (x.l.map (·.name)) W h.b (Zhl h.s.eq) (fun k hk=>?_) (by rw[List.length_map];have:=h.len;omega) h.up).mono fun e w' q=>?_
 ·have:=h.s.named k hk
  unfold ZbA at this
  rw[Bool.and_eq_true,decide_eq_true_eq,decide_eq_true_eq] at this
  exact this.2
 ·obtain⟨v,q1,q2⟩:=q
  rw[ZsZ h.s.eq h.d.up] at q2
  exact⟨v,q1,q2.relW,q2.ext⟩
theorem Zex {W:World}{lo:Nat}{xs:List Zb3}{x:Zkb}(h:Zc7 W lo xs x):Calls Tryz.prog 12 #[.pointer (some ⟨x.db,0,none⟩)] W fun e w'=>∃v,e=.returned v∧Znf W.heap.size w' (ZeA x.l) v∧Ext W w':=
 (Zkx lo x.db x.l W h.d (by have:=h.len;omega)).mono fun e w' q=>by
  obtain⟨v,q1,q2⟩:=q
  exact⟨v,q1,q2.relW,q2.ext⟩
theorem Zey {W:World}{lo:Nat}{xs:List Zb3}{x:Zkb}(h:Zc7 W lo xs x){lo1 lo2:Nat}{W':World}{v v':Value}(h1:Znf lo1 W' (ZeA x.l) v)(h2:Znf lo2 W' (ZeA x.l) v'):Calls Tryz.prog 10 #[v,v'] W' fun e w'=>e=.returned (.bool true)∧Ext W' w':=by
 refine ZkW (ZeA x.l) v v' lo1 lo2 W' h1 h2 (by unfold ZeA;rw[List.length_map];have:=h.len;omega) fun y hy=>?_
 unfold ZeA at hy
 obtain⟨z,hz,rfl⟩:=List.mem_map.1 hy
 have:=(h.d.rel z hz).2.2.2.few
 show z.rs.length≤_
 omega
theorem Zs3 {r:ZaQ}{nh:Nat}{oa ol:Option Zkb}{rows:List (List ByteArray)}(h:(Zkc r nh oa ol).2=some rows):(∃a,oa=some a)∧(∃l,ol=some l)∧(Zkc r nh oa ol).1=0:=by
 unfold Zkc at h ⊢
 split at h
 ·cases h
 ·split at h
  ·cases h
  ·cases oa with
   |none=>cases h
   |some a=>
    cases ol with
    |none=>cases h
    |some l=>
     simp only at h ⊢
     split at h
     ·cases h
     ·rename_i h1 h2 h3
      rw[if_neg h1,if_neg h2,if_neg h3]
      exact⟨⟨a,rfl⟩,⟨l,rfl⟩,rfl⟩
theorem ZkX (r:ZaQ)(ah:Option Addr)(nh ch:Nat)(ab:Option Addr)(nb cb:Nat)(xa xl:List Zb3)(a1:Option Addr)(n1 c1:Nat)(a2:Option Addr)(n2 c2:Nat)(no:Int)(w:World)(hr:ZaR w r ah nh ch ab nb cb)(hv:(Zad r).length≤1000000)(h1:Zc2 w a1 n1 xa)(h2:Zc2 w a2 n2 xl)(hn1:n1≤999999)(hn2:n2≤999999)(hs1:ZaZ xa≤2000000)(hs2:ZaZ xl≤2000000):
  Calls Tryz.prog 3 #[.agg #[.string r.head.pred,.slice ah nh ch,.slice ab nb cb,.slice a1 n1 c1,.slice a2 n2 c2,.int .i64 no]] w fun e w'=>e=.returned (.bool true)∧Ext w w':=by
 have HR:=zh hr
 have HV:=zh hv
 have H1:=zh h1
 have H2:=zh h2
 have HN1:=zh hn1
 have HN2:=zh hn2
 have HS1:=zh hs1
 have HS2:=zh hs2
 clear hr hv h1 h2 hn1 hn2 hs1 hs2
 go_enter Tryz.func3,Tryz.ntmps3
 go_upto_region 2 with (fail)
 refine Zba (fun W hW=>?_)
 have X:Hid (Ext w W∧W.cell? ⟨w.heap.size,0,none⟩=some (.string r.head.pred)∧W.cell? ⟨w.heap.size,1,none⟩=some (.slice ah nh ch)∧W.cell? ⟨w.heap.size,2,none⟩=some (.slice ab nb cb)∧W.cell? ⟨w.heap.size,3,none⟩=some (.slice a1 n1 c1)∧W.cell? ⟨w.heap.size,4,none⟩=some (.slice a2 n2 c2)∧W.cell? ⟨w.heap.size,5,none⟩=some (.int .i64 no)∧W.cell? ⟨w.heap.size+1,0,none⟩=some (.string r.head.pred)∧W.cell? ⟨w.heap.size+1,1,none⟩=some (.slice ah nh ch)∧W.cell? ⟨w.heap.size+1,2,none⟩=some (.slice ab nb cb)∧W.cell? ⟨w.heap.size+1+1,0,none⟩=some (.slice (some ⟨w.heap.size+1,0,none⟩) 1 1)):=by
  rw[hW]
  refine⟨Zab (Zab (Zab zbr _) _) _,?_,?_,?_,?_,?_,?_,?_,?_,?_,?_⟩ <;> go_simp
 clear hW
 obtain⟨p1,hp1⟩:∃p,w.heap.size=p:=⟨_,rfl⟩
 rw[hp1] at X ⊢
 obtain⟨p2,hp2⟩:∃p,p1+1=p:=⟨_,rfl⟩
 rw[hp2] at X ⊢
 obtain⟨p3,hp3⟩:∃p,p2+1=p:=⟨_,rfl⟩
 rw[hp3] at X ⊢
 clear hp1 hp2 hp3
 have EW:Hid (Ext w W):=X.out.1
 have CL:Hid (∀W',Ext W W'→W'.cell? ⟨p1,0,none⟩=some (.string r.head.pred)∧W'.cell? ⟨p1,1,none⟩=some (.slice ah nh ch)∧W'.cell? ⟨p1,2,none⟩=some (.slice ab nb cb)∧W'.cell? ⟨p1,3,none⟩=some (.slice a1 n1 c1)∧W'.cell? ⟨p1,4,none⟩=some (.slice a2 n2 c2)∧W'.cell? ⟨p1,5,none⟩=some (.int .i64 no)∧W'.cell? ⟨p3,0,none⟩=some (.slice (some ⟨p2,0,none⟩) 1 1)):=fun W' e=>⟨Zac e X.out.2.1,Zac e X.out.2.2.1,Zac e X.out.2.2.2.1,Zac e X.out.2.2.2.2.1,Zac e X.out.2.2.2.2.2.1,Zac e X.out.2.2.2.2.2.2.1,Zac e X.out.2.2.2.2.2.2.2.2.2.2⟩
 have MU1:Hid (Calls Tryz.prog 4 #[.agg #[.slice (some ⟨p2,0,none⟩) 1 1],.slice a1 n1 c1] W fun e w'=>∃b,e=.returned (.bool b)∧Ext W w'∧(b=false→ZaZ xa≤400∧nb≤6∧Zdk r xa)):=ZrH r ah nh ch ab nb cb p2 1 xa a1 n1 c1 W X.out.2.2.2.2.2.2.2.1 X.out.2.2.2.2.2.2.2.2.1 X.out.2.2.2.2.2.2.2.2.2.1 (HR.out.keep EW.out) (H1.out.keep EW.out) HS1.out HV.out
 have MU2:Hid (∀W',Ext W W'→Calls Tryz.prog 4 #[.agg #[.slice (some ⟨p2,0,none⟩) 1 1],.slice a2 n2 c2] W' fun e w'=>∃b,e=.returned (.bool b)∧Ext W' w'∧(b=false→ZaZ xl≤400∧nb≤6∧Zdk r xl)):=fun W' e=>ZrH r ah nh ch ab nb cb p2 1 xl a2 n2 c2 W' (Zac e X.out.2.2.2.2.2.2.2.1) (Zac e X.out.2.2.2.2.2.2.2.2.1) (Zac e X.out.2.2.2.2.2.2.2.2.2.1) (HR.out.keep (Zaa EW.out e)) (H2.out.keep (Zaa EW.out e)) HS2.out HV.out
 clear X HS1 HS2
 obtain⟨y0,y1,y2,y3,y4,y5,y6⟩:=CL.out W zbr
 go_upto_region 4 with (first
  |(go_at_call 4;(with_reducible refine MU1.out.mono ?_);rintro e w3 ⟨b3,rfl,e3,hb3⟩;obtain⟨z0,z1,z2,z3,z4,z5,z6⟩:=CL.out _ e3;have E3:=zh e3;have HB3:=zh hb3;clear e3 hb3;cases b3)
  |(go_at_call 4;(with_reducible refine(MU2.out _ E3.out).mono ?_);rintro e w4 ⟨b4,rfl,e4,hb4⟩;have E4:=zh e4;have HB4:=zh hb4;clear e4 hb4;cases b4)
  |fail)
 rotate_left
 ·go_returns
  exact⟨rfl,Zaa EW.out (Zaa E3.out E4.out)⟩
 ·go_returns
  exact⟨rfl,Zaa EW.out E3.out⟩
 obtain⟨ra,hnb,hfa⟩:=HB3.out (by first|exact rfl|trivial)
 obtain⟨rl,_,hfl⟩:=HB4.out (by first|exact rfl|trivial)
 have RA:=zh ra
 have RL:=zh rl
 have HNB:=zh hnb
 have HFA:=zh hfa
 have EW4:Hid (Ext W w4):=Zaa E3.out E4.out
 clear y0 y1 y2 y3 y4 y5 y6 z0 z1 z2 z3 z4 z5 z6 HB3 HB4 MU1 MU2 ra rl hnb hfa hfl E3 E4
 obtain⟨y0,y1,y2,y3,y4,y5,y6⟩:=CL.out w4 EW4.out
 have BA1:=zh (Zl5 xa a1 n1 c1 w4 (H1.out.keep (Zaa EW.out EW4.out)) HN1.out RA.out)
 have BA2:Hid (∀W',Ext w4 W'→Calls Tryz.prog 5 #[.slice a2 n2 c2] W' fun e w'=>Ext W' w'∧∃o,e=.returned (.tuple #[bP o,dP o,.bool true])∧∀x,o=some x→Zc7 w' W'.heap.size xl x):=fun W' e=>Zl5 xl a2 n2 c2 W' (H2.out.keep (Zaa EW.out (Zaa EW4.out e))) HN2.out RL.out
 obtain⟨q1,hq1⟩:∃q,(no==1)=q:=⟨_,rfl⟩
 obtain⟨q2,hq2⟩:∃q,(no==2)=q:=⟨_,rfl⟩
 go_upto_if 54 with (first
  |(go_at_call 5;(with_reducible refine BA1.out.mono ?_);rintro e w5 ⟨e5,o1,rfl,k1⟩;obtain⟨z0,z1,z2,z3,z4,z5,z6⟩:=CL.out _ (Zaa EW4.out e5);have E5:=zh e5;have K1:=zh k1;clear e5 k1)
  |(go_at_call 5;(with_reducible refine(BA2.out _ E5.out).mono ?_);rintro e w6 ⟨e6,o2,rfl,k2⟩;obtain⟨x0,x1,x2,x3,x4,x5,x6⟩:=CL.out _ (Zaa EW4.out (Zaa E5.out e6));have E6:=zh e6;have K2:=zh k2;clear e6 k2)
  |fail)
 have EW6:Hid (Ext W w6):=Zaa EW4.out (Zaa E5.out E6.out)
 have K1':Hid (∀x,o1=some x→Zc7 w6 w4.heap.size xa x):=fun x hx=>(K1.out x hx).ext E6.out
 obtain⟨lo1,hlo1⟩:∃n,w4.heap.size=n:=⟨_,rfl⟩
 obtain⟨lo2,hlo2⟩:∃n,w5.heap.size=n:=⟨_,rfl⟩
 rw[hlo1] at K1'
 rw[hlo2] at K2
 have K2':=zh K2.out
 clear hlo1 hlo2
 clear y0 y1 y2 y3 y4 y5 y6 z0 z1 z2 z3 z4 z5 z6 K1 K2 E5 E6 BA1 BA2
 go_cut [4,5] (fun v4 v5 wc=>wc=w6∧∃o,v4=bP o∧v5=dP o∧∀x,o=some x→Zc7 w6 lo1 xa x)
 case first=>
  cases q1 with
  |true=>
   go_wp2
   go_meet
   exact⟨rfl,none,rfl,rfl,fun x hx=>by cases hx⟩
  |false=>
   go_wp2
   go_meet
   exact⟨rfl,o1,rfl,rfl,K1'.out⟩
 obtain⟨rfl,oa,rfl,rfl,ka⟩:=hcut
 have KA:=zh ka
 clear ka
 go_upto_if 57 with (fail)
 go_cut [7,8] (fun v7 v8 wd=>wd=wc∧∃o,v7=bP o∧v8=dP o∧∀x,o=some x→Zc7 wc lo2 xl x)
 case first=>
  cases q2 with
  |true=>
   go_wp2
   go_meet
   exact⟨rfl,none,rfl,rfl,fun x hx=>by cases hx⟩
  |false=>
   go_wp2
   go_meet
   exact⟨rfl,o2,rfl,rfl,K2'.out⟩
 obtain⟨rfl,ol,rfl,rfl,kl⟩:=hcut
 have KL:=zh kl
 clear kl K1' K2' hq1 hq2
 have LR:=zh (Zm4 r ah nh ch ab nb cb wc (HR.out.keep (Zaa EW.out EW6.out)))
 go_upto_region 15 with (go_at_call 6;(with_reducible refine LR.out.mono ?_);rintro e w7 ⟨gh,ch',gb,cb',rfl,ow,e7⟩;have OW:=zh ow;have E7:=zh e7;clear ow e7)
 refine Zba (fun W7 hW7=>?_)
 have Y:Hid (Ext wc W7∧W7.cell? ⟨w7.heap.size,0,none⟩=some (.string r.head.pred)∧W7.cell? ⟨w7.heap.size,1,none⟩=some (.slice (some ⟨gh,0,none⟩) nh ch')∧W7.cell? ⟨w7.heap.size,2,none⟩=some (.slice (some ⟨gb,0,none⟩) nb cb')∧Zpa W7 wc.heap.size r gh ch' gb cb'):=by
  rw[hW7]
  refine⟨Zab E7.out _,?_,?_,?_,OW.out.ext (Zab zbr _)⟩ <;> go_simp
 clear hW7 x0 x1 x2 x3 x4 x5 x6 LR
 obtain⟨p10,hp10⟩:∃p,w7.heap.size=p:=⟨_,rfl⟩
 rw[hp10] at Y ⊢
 clear hp10 E7 OW
 have EW7:Hid (Ext W W7):=Zaa EW6.out Y.out.1
 have CY:Hid (∀W',Ext W7 W'→W'.cell? ⟨p10,0,none⟩=some (.string r.head.pred)∧W'.cell? ⟨p10,1,none⟩=some (.slice (some ⟨gh,0,none⟩) nh ch')∧W'.cell? ⟨p10,2,none⟩=some (.slice (some ⟨gb,0,none⟩) nb cb')):=fun W' e=>⟨Zac e Y.out.2.1,Zac e Y.out.2.2.1,Zac e Y.out.2.2.2.1⟩
 have KA7:Hid (∀W',Ext W7 W'→∀x,oa=some x→Zc7 W' lo1 xa x):=fun W' e x hx=>(KA.out x hx).ext (Zaa Y.out.1 e)
 have KL7:Hid (∀W',Ext W7 W'→∀x,ol=some x→Zc7 W' lo2 xl x):=fun W' e x hx=>(KL.out x hx).ext (Zaa Y.out.1 e)
 have RU:Hid (∀W',Ext W7 W'→ZaR W' r (some ⟨gh,0,none⟩) nh ch' (some ⟨gb,0,none⟩) nb cb'∧ZaR W' r ah nh ch ab nb cb∧Zpa W' wc.heap.size r gh ch' gb cb'):=fun W' e=>⟨(Y.out.2.2.2.2.rule HR.out).keep e,HR.out.keep (Zaa EW.out (Zaa EW7.out e)),Y.out.2.2.2.2.ext e⟩
 have KP:Hid (∀W',Ext W7 W'→Calls Tryz.prog 9 #[.agg #[.string r.head.pred,.slice (some ⟨gh,0,none⟩) nh ch',.slice (some ⟨gb,0,none⟩) nb cb'],.agg #[.string r.head.pred,.slice ah nh ch,.slice ab nb cb]] W' fun e w'=>e=.returned (.bool true)∧Ext W' w'):=fun W' e=>Zuv r gh nh ch' gb nb cb' _ ah ch ab cb W' (RU.out W' e).2.2 (RU.out W' e).1 (RU.out W' e).2.1
 obtain⟨an,han⟩:∃an,Zkc r nh oa ol=an:=⟨_,rfl⟩
 have FC:Hid (Calls Tryz.prog 7 #[.agg #[.string r.head.pred,.slice (some ⟨gh,0,none⟩) nh ch',.slice (some ⟨gb,0,none⟩) nb cb'],bP oa,bP ol] W7 (Zu7 nh an W7)):=by
  rw[←han]
  exact ZqK r _ nh ch' _ nb cb' lo1 lo2 xa xl oa ol W7 (RU.out _ zbr).1 HV.out HNB.out (KA7.out _ zbr) (KL7.out _ zbr)
 have FD:Hid (∀W',Ext W7 W'→Calls Tryz.prog 8 #[.agg #[.string r.head.pred,.slice ah nh ch,.slice ab nb cb],dP oa,dP ol] W' (Zu8 nh an W')):=fun W' e=>by
  rw[←han]
  exact ZqL r _ nh ch _ nb cb lo1 lo2 xa xl oa ol W' (RU.out _ e).2.1 HV.out HNB.out HFA.out (KA7.out _ e) (KL7.out _ e)
 have CL7:Hid (∀W',Ext W7 W'→W'.cell? ⟨p1,0,none⟩=some (.string r.head.pred)∧W'.cell? ⟨p1,1,none⟩=some (.slice ah nh ch)∧W'.cell? ⟨p1,2,none⟩=some (.slice ab nb cb)):=fun W' e=>⟨(CL.out _ (Zaa EW7.out e)).1,(CL.out _ (Zaa EW7.out e)).2.1,(CL.out _ (Zaa EW7.out e)).2.2.1⟩
 have EW8:Hid (Ext w W7):=Zaa EW.out EW7.out
 have INV:Hid (∀rows,an.2=some rows→(∃a,oa=some a)∧(∃l,ol=some l)∧an.1=0):=fun rows h=>by
  rw[←han] at h ⊢
  exact Zs3 h
 clear han KA KL Y EW7 EW6 EW CL H1 H2 HN1 HN2 RA RL RU HFA HV HNB HR EW4
 obtain⟨c0,c1',c2'⟩:=CY.out _ zbr
 obtain⟨E,R⟩:=an
 cases R with
 |none=>
  have FC1:Hid (Calls Tryz.prog 7 #[.agg #[.string r.head.pred,.slice (some ⟨gh,0,none⟩) nh ch',.slice (some ⟨gb,0,none⟩) nb cb'],bP oa,bP ol] W7 fun e w'=>Ext W7 w'∧e=.returned (.tuple #[.pointer none,.int .i64 E])):=FC.out.mono fun e w' h=>⟨h.1,by
   rcases h.2 with q|⟨rows,pr,q,_⟩
   ·exact q.2
   ·cases q⟩
  have FD1:Hid (∀W',Ext W7 W'→Calls Tryz.prog 8 #[.agg #[.string r.head.pred,.slice ah nh ch,.slice ab nb cb],dP oa,dP ol] W' fun e w'=>Ext W' w'∧e=.returned (.tuple #[.pointer none,.int .i64 E])):=fun W' e'=>(FD.out W' e').mono fun e w' h=>⟨h.1,by
   rcases h.2 with q|⟨rows,pr,q,_⟩
   ·exact q.2
   ·cases q⟩
  clear FC FD INV
  go_upto_region 19 with (first
   |(go_at_call 7;(with_reducible refine FC1.out.mono ?_);rintro e w8 ⟨e8,rfl⟩;have E8:=zh e8;obtain⟨y0,y1,y2⟩:=CL7.out _ e8;clear e8)
   |(go_at_call 8;(with_reducible refine(FD1.out _ E8.out).mono ?_);rintro e w9 ⟨e9,rfl⟩;have E9:=zh (Zaa E8.out e9);obtain⟨z0,z1,z2⟩:=CL7.out _ E9.out;obtain⟨s0,s1,s2⟩:=CY.out _ E9.out;clear e9)
   |(go_at_call 9;(with_reducible refine(KP.out _ E9.out).mono ?_);rintro e w10 ⟨rfl,e10⟩;have E10:=zh (Zaa E9.out e10);clear e10)
   |fail)
  clear y0 y1 y2 z0 z1 z2 s0 s1 s2 c0 c1' c2' FC1 FD1 KP CL7 CY E8 E9
  have BA:Hid (∀W',Ext w10 W'→∀x,oa=some x→Zc7 W' lo1 xa x):=fun W' e=>KA7.out W' (Zaa E10.out e)
  have BL:Hid (∀W',Ext w10 W'→∀x,ol=some x→Zc7 W' lo2 xl x):=fun W' e=>KL7.out W' (Zaa E10.out e)
  have EE:Hid (Ext w w10):=Zaa EW8.out E10.out
  clear KA7 KL7 E10 EW8
  go_cut [114] (fun v wc=>v=.bool false∧Ext w10 wc)
  case first=>
   cases oa with
   |none=>
    cases ol with
    |none=>
     dsimp only[bP,dP,Option.map]
     go_wp2
     go_meet
     exact⟨rfl,Below.refl _ _⟩
    |some l=>
     dsimp only[bP,dP,Option.map]
     go_wp2_with (first
      |(go_at_call 11;(with_reducible refine(Zga (BL.out _ zbr l rfl)).mono ?_);rintro e w11 ⟨v1,rfl,r1,e11⟩;have E11:=zh e11;have R1:=zh r1;clear e11 r1)
      |(go_at_call 12;(with_reducible refine(Zex (BL.out _ E11.out l rfl)).mono ?_);rintro e w12 ⟨v2,rfl,r2,e12⟩;have E12:=zh e12;have R2:=zh r2;clear e12 r2)
      |(go_at_call 10;(with_reducible refine(Zey (BL.out _ (Zaa E11.out E12.out) l rfl) (R1.out.ext E12.out) R2.out).mono ?_);rintro e w13 ⟨rfl,e13⟩;have E13:=zh e13;clear e13)
      |fail)
     go_meet
     exact⟨rfl,Zaa E11.out (Zaa E12.out E13.out)⟩
   |some a=>
    cases ol with
    |none=>
     dsimp only[bP,dP,Option.map]
     go_wp2_with (first
      |(go_at_call 11;(with_reducible refine(Zga (BA.out _ zbr a rfl)).mono ?_);rintro e w11 ⟨v1,rfl,r1,e11⟩;have E11:=zh e11;have R1:=zh r1;clear e11 r1)
      |(go_at_call 12;(with_reducible refine(Zex (BA.out _ E11.out a rfl)).mono ?_);rintro e w12 ⟨v2,rfl,r2,e12⟩;have E12:=zh e12;have R2:=zh r2;clear e12 r2)
      |(go_at_call 10;(with_reducible refine(Zey (BA.out _ (Zaa E11.out E12.out) a rfl) (R1.out.ext E12.out) R2.out).mono ?_);rintro e w13 ⟨rfl,e13⟩;have E13:=zh (Zaa E11.out (Zaa E12.out e13));clear e13 R1 R2)
      |fail)
     go_meet
     exact⟨rfl,E13.out⟩
    |some l=>
     dsimp only[bP,dP,Option.map]
     go_wp2_with (first
      |(go_at_call 11;(with_reducible refine(Zga (BA.out _ zbr a rfl)).mono ?_);rintro e w11 ⟨v1,rfl,r1,e11⟩;have E11:=zh e11;have R1:=zh r1;clear e11 r1)
      |(go_at_call 12;(with_reducible refine(Zex (BA.out _ E11.out a rfl)).mono ?_);rintro e w12 ⟨v2,rfl,r2,e12⟩;have E12:=zh e12;have R2:=zh r2;clear e12 r2)
      |(go_at_call 10;(with_reducible refine(Zey (BA.out _ (Zaa E11.out E12.out) a rfl) (R1.out.ext E12.out) R2.out).mono ?_);rintro e w13 ⟨rfl,e13⟩;have E13:=zh (Zaa E11.out (Zaa E12.out e13));clear e13 R1 R2)
      |(go_at_call 11;(with_reducible refine(Zga (BL.out _ E13.out l rfl)).mono ?_);rintro e w14 ⟨v3,rfl,r3,e14⟩;have E14:=zh (Zaa E13.out e14);have R3:=zh r3;clear e14 r3)
      |(go_at_call 12;(with_reducible refine(Zex (BL.out _ E14.out l rfl)).mono ?_);rintro e w15 ⟨v4,rfl,r4,e15⟩;have E15:=zh (Zaa E14.out e15);have R4:=zh r4;have R3':=zh (R3.out.ext e15);clear e15 r4)
      |(go_at_call 10;(with_reducible refine(Zey (BL.out _ E15.out l rfl) R3'.out R4.out).mono ?_);rintro e w16 ⟨rfl,e16⟩;have E16:=zh (Zaa E15.out e16);clear e16)
      |fail)
     go_meet
     exact⟨rfl,E16.out⟩
  obtain⟨rfl,ec⟩:=hcut
  have EC:=zh (Zaa EE.out ec)
  clear ec BA BL EE
  go_wp2
  go_returns
  exact⟨rfl,EC.out⟩
 |some rows=>
  obtain⟨⟨a,rfl⟩,⟨l,rfl⟩,rfl⟩:=INV.out rows rfl
  have FC1:Hid (Calls Tryz.prog 7 #[.agg #[.string r.head.pred,.slice (some ⟨gh,0,none⟩) nh ch',.slice (some ⟨gb,0,none⟩) nb cb'],.pointer (some ⟨a.bb,0,none⟩),.pointer (some ⟨l.bb,0,none⟩)] W7 fun e w'=>Ext W7 w'∧∃pr,e=.returned (.tuple #[.pointer (some ⟨pr,0,none⟩),.int .i64 0])∧Zay w' (pr+1) pr nh rows∧Zbs nh rows):=FC.out.mono fun e w' h=>⟨h.1,by
   rcases h.2 with⟨q,_⟩|⟨rows',pr,q,q2⟩
   ·cases q
   ·cases q
    exact⟨pr,q2⟩⟩
  have FD1:Hid (∀W',Ext W7 W'→Calls Tryz.prog 8 #[.agg #[.string r.head.pred,.slice ah nh ch,.slice ab nb cb],.pointer (some ⟨a.db,0,none⟩),.pointer (some ⟨l.db,0,none⟩)] W' fun e w'=>Ext W' w'∧∃pr,e=.returned (.tuple #[.pointer (some ⟨pr,0,none⟩),.int .i64 0])∧ZbH w' (pr+1) pr nh rows):=fun W' e'=>(FD.out W' e').mono fun e w' h=>⟨h.1,by
   rcases h.2 with⟨q,_⟩|⟨rows',pr,q,q2⟩
   ·cases q
   ·cases q
    exact⟨pr,q2⟩⟩
  clear FC FD INV
  dsimp only[bP,dP,Option.map]
  go_upto_region 19 with (first
   |(go_at_call 7;(with_reducible refine FC1.out.mono ?_);rintro e w8 ⟨e8,pr,rfl,rv,rk⟩;have E8:=zh e8;have RV8:=zh rv;have RK:=zh rk;obtain⟨y0,y1,y2⟩:=CL7.out _ e8;clear e8 rv rk)
   |(go_at_call 8;(with_reducible refine(FD1.out _ E8.out).mono ?_);rintro e w9 ⟨e9,po,rfl,dv⟩;have E9:=zh (Zaa E8.out e9);have RV9:=zh (RV8.out.ext e9);have DV9:=zh dv;obtain⟨z0,z1,z2⟩:=CL7.out _ E9.out;obtain⟨s0,s1,s2⟩:=CY.out _ E9.out;clear e9 dv RV8)
   |(go_at_call 9;(with_reducible refine(KP.out _ E9.out).mono ?_);rintro e w10 ⟨rfl,e10⟩;have E10:=zh (Zaa E9.out e10);have RV10:=zh (RV9.out.ext e10);have DV10:=zh (DV9.out.ext e10);clear e10 RV9 DV9)
   |fail)
  clear y0 y1 y2 z0 z1 z2 s0 s1 s2 c0 c1' c2' FC1 FD1 KP CL7 CY E8 E9
  have BA:Hid (∀W',Ext w10 W'→∀x,some a=some x→Zc7 W' lo1 xa x):=fun W' e=>KA7.out W' (Zaa E10.out e)
  have BL:Hid (∀W',Ext w10 W'→∀x,some l=some x→Zc7 W' lo2 xl x):=fun W' e=>KL7.out W' (Zaa E10.out e)
  have EE:Hid (Ext w w10):=Zaa EW8.out E10.out
  clear KA7 KL7 E10 EW8
  go_upto_region 23 with (first
      |(go_at_call 11;(with_reducible refine(Zga (BA.out _ zbr a rfl)).mono ?_);rintro e w11 ⟨v1,rfl,r1,e11⟩;have E11:=zh e11;have R1:=zh r1;clear e11 r1)
      |(go_at_call 12;(with_reducible refine(Zex (BA.out _ E11.out a rfl)).mono ?_);rintro e w12 ⟨v2,rfl,r2,e12⟩;have E12:=zh e12;have R2:=zh r2;clear e12 r2)
      |(go_at_call 10;(with_reducible refine(Zey (BA.out _ (Zaa E11.out E12.out) a rfl) (R1.out.ext E12.out) R2.out).mono ?_);rintro e w13 ⟨rfl,e13⟩;have E13:=zh (Zaa E11.out (Zaa E12.out e13));clear e13 R1 R2)
      |(go_at_call 11;(with_reducible refine(Zga (BL.out _ E13.out l rfl)).mono ?_);rintro e w14 ⟨v3,rfl,r3,e14⟩;have E14:=zh (Zaa E13.out e14);have R3:=zh r3;clear e14 r3)
      |(go_at_call 12;(with_reducible refine(Zex (BL.out _ E14.out l rfl)).mono ?_);rintro e w15 ⟨v4,rfl,r4,e15⟩;have E15:=zh (Zaa E14.out e15);have R4:=zh r4;have R3':=zh (R3.out.ext e15);clear e15 r4)
      |(go_at_call 10;(with_reducible refine(Zey (BL.out _ E15.out l rfl) R3'.out R4.out).mono ?_);rintro e w16 ⟨rfl,e16⟩;have E16:=zh (Zaa E15.out e16);clear e16)
      |fail)
  have EE16:Hid (Ext w w16):=Zaa EE.out E16.out
  have RV16:=zh (RV10.out.ext E16.out)
  have DV16:=zh (DV10.out.ext E16.out)
  clear EE E11 E12 E13 E14 E15 E16 R3 R4 R3' RV10 DV10 BA BL
  have FEW:Hid (rows.length≤1000000∧∀q∈rows,q.length≤1000000):=⟨by have:=RK.out.few;omega,fun q hq=>by have:=(RK.out.row q hq).1;have:=RK.out.wide;omega⟩
  have AC:=zh (Zum (pr+1) pr nh rows w16 RV16.out FEW.out.1 FEW.out.2)
  have AD:Hid (∀W',Ext w16 W'→Calls Tryz.prog 14 #[.pointer (some ⟨po,0,none⟩)] W' fun e w'=>∃v,e=.returned v∧Zci W' w' rows v):=fun W' e=>Zny (po+1) po nh rows W' (DV16.out.ext e) FEW.out.1 FEW.out.2
  have YC:Hid (∀W',Ext w16 W'→Calls Tryz.prog 15 #[.pointer (some ⟨pr,0,none⟩)] W' fun e w'=>e=.returned (.int .i64 (nh:Int))∧w'=W'):=fun W' e=>ZgP (pr+1) pr nh rows W' (RV16.out.ext e)
  have YD:Hid (∀W',Ext w16 W'→Calls Tryz.prog 16 #[.pointer (some ⟨po,0,none⟩)] W' fun e w'=>e=.returned (.int .i64 (nh:Int))∧w'=W'):=fun W' e=>Zr6 po nh W' ((DV16.out.ext e).c0)
  obtain⟨n,hn⟩:∃n,rows.length=n:=⟨_,rfl⟩
  have HN:=zh hn
  have hnn:n≤1000000:=by have:=FEW.out.1;omega
  clear RV16 DV16 RK hn
  go_wp2_with (first
   |(go_at_call 13;(with_reducible refine AC.out.mono ?_);rintro e w17 ⟨a7,c7,us7,rfl,o7,r7,e17⟩;rw[HN.out];have E17:=zh e17;have R7:Hid (Zdo w16.heap.size w17 rows (.slice a7 n c7)):=zh ⟨us7,by rw[←HN.out];exact o7,r7⟩;clear o7 r7 e17)
   |(go_at_call 14;(with_reducible refine(AD.out _ E17.out).mono ?_);rintro e w18 ⟨v8,rfl,us8,o8,r8,e18⟩;obtain⟨a8,c8,rfl,_⟩:=Zag o8;rw[HN.out] at o8 ⊢;have E18:=zh (Zaa E17.out e18);have R8:Hid (Zdo w17.heap.size w18 rows (.slice a8 n c8)):=zh ⟨us8,by rw[HN.out];exact o8,r8⟩;have R7':=zh (R7.out.ext e18);clear o8 r8 e18)
   |(go_at_call 15;(with_reducible refine(YC.out _ E18.out).mono ?_);rintro e w19 ⟨rfl,hw19⟩;obtain rfl:=hw19.symm)
   |(go_at_call 16;(with_reducible refine(YD.out _ E18.out).mono ?_);rintro e w20 ⟨rfl,hw20⟩;obtain rfl:=hw20.symm)
   |fail)
  have EF:Hid (Ext w w18):=Zaa EE16.out E18.out
  clear AC AD YC YD E17 R7 FEW EE16 E18
  go_loopw [17] (fun i wj=>∃j:Nat,j≤n∧i=.int .i64 (j:Int)∧Ext w18 wj) (fun i _=>n-(intOf i).toNat)
  case atStart=>exact⟨0,by omega,rfl,Below.refl _ _⟩
  case round=>
   obtain⟨j,hj,rfl,hw⟩:=hrel
   have HW2:=zh hw
   by_cases hlj:j<n
   ·obtain⟨q,hr⟩:∃q,rows[j]? =some q:=⟨_,zge (by have:=HN.out;omega)⟩
    obtain⟨g1,d1,f1,rfl,t1,t2⟩:=(R7'.out.ext hw).at hr
    obtain⟨g2,d2,f2,rfl,s1,s2⟩:=(R8.out.ext hw).at hr
    have hji:(j:Int)<(n:Int):=by omega
    have TX:Hid (∀z,Calls Tryz.prog 17 #[.slice d1 q.length f1,.slice d2 q.length f2] (wr.drewN z) fun e w'=>e=.returned (.bool true)∧∃m,w'=(wr.drewN z).drewN m):=fun z=>Zpb q d1 q.length f1 d2 f2 _ (t2.keep (Zae zbr _)) (s2.keep (Zae zbr _))
    clear hr t2 s2 hw
    go_wp2
    go_quiet ((go_at_call 17;exact Calls.quiet_of (TX.out _)))
    go_wp2
    go_roundw
    case rel=>exact⟨j+1,by omega,by go_num,Zae HW2.out _⟩
    case measure=>simp[intOf];omega
   ·obtain rfl:j=n:=by omega
    have hge:¬(j:Int)<(j:Int):=by omega
    clear hw
    go_wp2
    go_returns
    exact⟨rfl,Zaa EF.out HW2.out⟩
end Go.Proofs.YtjfbjjmiobgjfaaGreat
namespace Go.Proofs.YtjfbjjmiobgjfaaGreat.bulks
theorem Zs4 {H:Type}{d:DataW H}{l:List (DataW H)}(h:d∈l):Rows.uptoBulk d≤Rows.uptoBulkAll l:=by
 induction l with
 |nil=>cases h
 |cons x r ih=>
  simp only[Rows.uptoBulkAll]
  cases List.mem_cons.1 h with
  |inl e=>subst e;omega
  |inr e=>have:=ih e;omega
theorem sum_le {H:Type}{α:Type}(D:Nat→DataW H)(T:Nat→α)(cost:α→Nat):∀n,(∀i,i<n→cost (T i)≤Rows.uptoBulk (D i))→(((List.range n).map T).map cost).sum≤Rows.uptoBulkAll ((List.range n).map D):=by
 suffices ∀(l:List Nat),(∀i∈l,cost (T i)≤Rows.uptoBulk (D i))→((l.map T).map cost).sum≤Rows.uptoBulkAll (l.map D) from fun n h=>this _ fun i hi=>h i (List.mem_range.1 hi)
 intro l
 induction l with
 |nil=>intro _;simp[Rows.uptoBulkAll]
 |cons x l ih=>
  intro h
  simp only[List.map_cons,List.sum_cons,Rows.uptoBulkAll]
  have:=ih fun i hi=>h i (List.mem_cons_of_mem _ hi)
  have:=h x (by simp)
  omega
end Go.Proofs.YtjfbjjmiobgjfaaGreat.bulks
namespace Go.Proofs.YtjfbjjmiobgjfaaGreat
open ChangeShapes WideShapes ChangeAt RowKit Go.Deep
open K (ZaG Zda ZaQ Zaq Zbl ZaR Zbw Zcm)
section
variable {H:Type} {enc:TypeId×Value→H}
theorem ZqN {w:World}{a:Addr}{v:Value}(h:w.cell? a=some v):a=⟨a.block,a.off,none⟩:=by
 obtain⟨b,o,s⟩:=a
 cases s with
 |none=>rfl
 |some x=>
  unfold World.cell? at h
  split at h <;> simp at h
theorem Zei {α:Type}[Inhabited α]{t e:TypeId}{sz:Nat}{W:World}{base n:Nat}{cs:List Value}{x:DataW H×List MemPlace}(ht:Tryz.prog.underlying t=some (.slice e))(hsz:Tryz.prog.cellsOf e=sz)(h0:0<sz)(P:α→List Value→Prop)(cost:α→Nat)
  (hel:∀(m:Nat) (cs':List Value) (y:DataW H×List MemPlace),Rows.uptoBulk y.1≤1048576→DataW.trod enc Tryz.prog W base (fun _=>true) true m e cs'=some y→∃t,P t cs'∧cost t≤Rows.uptoBulk y.1)
  (hb:Rows.uptoBulk x.1≤1048576) (h:DataW.trod enc Tryz.prog W base (fun _=>true) true n t cs=some x):
  ∃(a:Option Addr) (len cap:Nat) (ts:List α),cs=[.slice a len cap]∧ts.length=len∧ZgM a len cap∧(ts.map cost).sum+1≤Rows.uptoBulk x.1∧∀i t,ts[i]? =some t→∃b off cs',a=some ⟨b,off,none⟩∧P t cs'∧∀j,j<sz→W.cell? ⟨b,off+i*sz+j,none⟩=cs'[j]?:=by
 rcases open_slice ht h with⟨rfl,rfl⟩|⟨a,len,cap,m,n',D,Pl,rfl,hb',hl,hm,hmm,rfl,hx⟩
 ·exact⟨none,0,0,[],rfl,rfl,⟨Nat.le_refl _,fun _=>⟨rfl,rfl⟩⟩,by simp[Rows.uptoBulk],by simp⟩
 ·simp only[if_true] at hmm
  subst hmm
  rw[hsz] at hx
  simp only[Rows.uptoBulk] at hb
  have hD:∀i,i<len→Rows.uptoBulk (D i)≤1048576:=fun i hi=>by
   have:=bulks.Zs4 (l:=(List.range len).map D) (List.mem_map.2 ⟨i,List.mem_range.2 hi,rfl⟩)
   omega
  obtain⟨T,hT⟩:=choose_lt (α:=α) (n:=len) (p:=fun i t=>∃cs',W.cells? base (a.add (i*sz)) sz=some cs'∧P t cs'∧cost t≤Rows.uptoBulk (D i)) (fun i hi=>by
   obtain⟨cs',h1,h2⟩:=hx i (by omega)
   obtain⟨t,h3,h4⟩:=hel _ _ _ (hD i hi) h2
   exact⟨t,cs',h1,h3,h4⟩)
  refine⟨some a,len,m,(List.range len).map T,rfl,by simp,⟨hl,by intro h;cases h⟩,?_,fun i t ht=>?_⟩
  ·have:=bulks.sum_le D T cost len (fun i hi=>by obtain⟨_,_,_,q⟩:=hT i hi;exact q)
   simp only[Rows.uptoBulk]
   omega
  ·obtain⟨hi,rfl⟩:i<len∧T i=t:=by
    have hi:=(zgs ht).1
    simp at hi
    refine⟨hi,?_⟩
    simpa [hi] using ht
   obtain⟨cs',h1,h2,_⟩:=hT i hi
   obtain⟨_,hl1,h3⟩:=World.cells?_some h1
   have hs:a=⟨a.block,a.off,none⟩:=by
    obtain⟨cs0,q1,_⟩:=hT 0 (by omega)
    obtain⟨_,hl0,q3⟩:=World.cells?_some q1
    have:=q3 0 h0
    rw[Nat.zero_mul] at this
    obtain⟨v,hv⟩:∃v,cs0[0]? =some v:=⟨_,zge (by omega)⟩
    rw[hv] at this
    exact ZqN this
   refine⟨a.block,a.off,cs',congrArg some hs,h2,fun j hj=>?_⟩
   have:=h3 j hj
   rw[hs,Addr.add_lit,Addr.add_lit] at this
   exact this
theorem ZdS:Tryz.prog.cellsOf 64=2:=by kernel_rfl
theorem ZdE:Tryz.prog.cellsOf 3=1:=by kernel_rfl
theorem Zez:Tryz.prog.cellsOf 9=1:=by kernel_rfl
theorem ZeY:Tryz.prog.cellsOf 24=2:=by kernel_rfl
theorem ZkY:Tryz.prog.cellsOf 22=1:=by kernel_rfl
theorem Zh8:Tryz.prog.cellsOf 66=8:=by kernel_rfl
theorem Zho:Tryz.prog.cellsOf 27=3:=by kernel_rfl
theorem ZkZ:Tryz.prog.cellsOf 25=1:=by kernel_rfl
theorem Zk0:Tryz.prog.cellsOf 54=1:=by kernel_rfl
theorem Zk1:Tryz.prog.cellsOf 50=1:=by kernel_rfl
theorem Zh9:Tryz.prog.cellsOf 57=3:=by kernel_rfl
theorem Zk2:Tryz.prog.cellsOf 28=1:=by kernel_rfl
theorem Zk3:Tryz.prog.cellsOf 30=6:=by kernel_rfl
theorem Zpd {α:Type}{l:List α}(h:l.length=2):∃a b,l=[a,b]:=by
 match l,h with
 |[a,b],_=>exact⟨a,b,rfl⟩
theorem ZjZ {α:Type}{l:List α}(h:l.length=3):∃a b c,l=[a,b,c]:=by
 match l,h with
 |[a,b,c],_=>exact⟨a,b,c,rfl⟩
theorem ZqO {α:Type}{l:List α}(h:l.length=5):∃a b c d e,l=[a,b,c,d,e]:=by
 match l,h with
 |[a,b,c,d,e],_=>exact⟨a,b,c,d,e,rfl⟩
theorem Zs5 {α:Type}{l:List α}(h:l.length=6):∃a b c d e f,l=[a,b,c,d,e,f]:=by
 match l,h with
 |[a,b,c,d,e,f],_=>exact⟨a,b,c,d,e,f,rfl⟩
theorem Zpe {α:Type}{l:List α}(h:l.length=8):∃a b c d e f g i,l=[a,b,c,d,e,f,g,i]:=by
 match l,h with
 |[a,b,c,d,e,f,g,i],_=>exact⟨a,b,c,d,e,f,g,i,rfl⟩
instance:Inhabited ZaG:=⟨⟨0,⟨#[]⟩⟩⟩
instance:Inhabited K.Lit:=⟨⟨0,⟨⟨#[]⟩,[]⟩,0,⟨0,⟨#[]⟩⟩,⟨0,⟨#[]⟩⟩⟩⟩
instance:Inhabited Zb3:=⟨⟨⟨#[]⟩,0,[]⟩⟩
theorem Zhp {α:Type}(c:Nat)(l:List α):(l.map fun _=>c).sum=l.length*c:=by
 induction l with
 |nil=>simp
 |cons x l ih=>rw[List.map_cons,List.sum_cons,ih,List.length_cons,Nat.succ_mul];omega
theorem ZiW {W:World}{base:Nat}{n:Nat}{cs:List Value}{x:DataW H×List MemPlace}(h:DataW.trod enc Tryz.prog W base (fun _=>true) true n 64 cs=some x):
  ∃t:ZaG,(cs=[.int .i64 t.kind,.string t.text]∧t.text.size≤maxLen)∧3≤Rows.uptoBulk x.1:=by
 obtain⟨y0,y1,m,rfl,hl,u0,u1⟩:=trod_struct2 Tryz.underlying64 h
 rw[ZdS] at hl
 obtain⟨c0,c1,rfl⟩:=Zpd hl
 simp only[ZdE,Zez,List.drop,List.take] at u0 u1
 obtain⟨k,hc,rfl,hw⟩:=DataW.trod_int Tryz.underlying3 u0
 obtain⟨t,ht,rfl,hs⟩:=DataW.trod_string Tryz.underlying9 u1
 cases hc
 cases ht
 exact⟨⟨k,t⟩,⟨rfl,hs⟩,by simp only[Rows.uptoBulk,Rows.uptoBulkAll];omega⟩
theorem Zpf {W:World}{base:Nat}{n:Nat}{cs:List Value}{x:DataW H×List MemPlace}(hb:Rows.uptoBulk x.1≤1048576)(h:DataW.trod enc Tryz.prog W base (fun _=>true) true n 22 cs=some x):
  ∃(a:Option Addr) (len cap:Nat) (ts:List ZaG),cs=[.slice a len cap]∧Zaq W a len ts∧ZgM a len cap∧len*3+1≤Rows.uptoBulk x.1:=by
 obtain⟨a,len,cap,ts,h1,h2,h3,h4,h5⟩:=Zei Tryz.underlying22 ZdS (by omega) (fun (t:ZaG) cs=>cs=[.int .i64 t.kind,.string t.text]∧t.text.size≤maxLen) (fun _=>3) (fun m cs' y _ hy=>ZiW hy) hb h
 rw[Zhp,h2] at h4
 refine⟨a,len,cap,ts,h1,⟨by omega,h2,fun i t ht=>?_⟩,h3,h4⟩
 obtain⟨b,off,cs',q1,⟨rfl,q3⟩,q4⟩:=h5 i t ht
 exact⟨b,off,q1,q4 0 (by omega),q4 1 (by omega),q3⟩
theorem Zl7 {W:World}{base:Nat}{n:Nat}{cs:List Value}{x:DataW H×List MemPlace}(hb:Rows.uptoBulk x.1≤1048576)(h:DataW.trod enc Tryz.prog W base (fun _=>true) true n 24 cs=some x):
  ∃(p:ByteArray) (a:Option Addr) (len cap:Nat) (ts:List ZaG),cs=[.string p,.slice a len cap]∧Zaq W a len ts∧ZgM a len cap∧p.size≤maxLen∧len*3+1≤Rows.uptoBulk x.1:=by
 obtain⟨y0,y1,m,rfl,hl,u0,u1⟩:=trod_struct2 Tryz.underlying24 h
 rw[ZeY] at hl
 obtain⟨c0,c1,rfl⟩:=Zpd hl
 simp only[ZkY,Zez,List.drop,List.take] at u0 u1
 simp only[Rows.uptoBulk,Rows.uptoBulkAll] at hb ⊢
 obtain⟨p,hc,rfl,hs⟩:=DataW.trod_string Tryz.underlying9 u0
 obtain⟨a,len,cap,ts,hc1,ht,hcap,hn⟩:=Zpf (by omega) u1
 cases hc
 cases hc1
 exact⟨p,a,len,cap,ts,rfl,ht,hcap,hs,by omega⟩
theorem Zs6 {W:World}{base:Nat}{n:Nat}{cs:List Value}{x:DataW H×List MemPlace}(hb:Rows.uptoBulk x.1≤1048576)(h:DataW.trod enc Tryz.prog W base (fun _=>true) true n 66 cs=some x):
  ∃l:K.Lit,(∃(a:Option Addr) (len cap:Nat),cs=[.int .i64 l.kind,.string l.atom.pred,.slice a len cap,.int .i64 l.op,.int .i64 l.left.kind,.string l.left.text,.int .i64 l.right.kind,.string l.right.text]∧Zaq W a len l.atom.terms∧ZgM a len cap∧l.atom.pred.size≤maxLen∧l.left.text.size≤maxLen∧l.right.text.size≤maxLen)∧l.atom.terms.length*3+1≤Rows.uptoBulk x.1:=by
 obtain⟨xs,m,_,rfl,hl,hlen,hf⟩:=DataW.trod_struct Tryz.underlying66 h
 rw[Zh8] at hl
 obtain⟨c0,c1,c2,c3,c4,c5,c6,c7,rfl⟩:=Zpe hl
 obtain⟨y0,y1,y2,y3,y4,rfl⟩:=ZqO hlen
 have u0:DataW.trod enc Tryz.prog W base (fun _=>true) true m 3 [c0]=some y0:=by simpa [ZdE] using hf 0 _ rfl
 have u1:DataW.trod enc Tryz.prog W base (fun _=>true) true m 24 [c1,c2]=some y1:=by simpa [ZeY] using hf 1 _ rfl
 have u2:DataW.trod enc Tryz.prog W base (fun _=>true) true m 3 [c3]=some y2:=by simpa [ZdE] using hf 2 _ rfl
 have u3:DataW.trod enc Tryz.prog W base (fun _=>true) true m 64 [c4,c5]=some y3:=by simpa [ZdS] using hf 3 _ rfl
 have u4:DataW.trod enc Tryz.prog W base (fun _=>true) true m 64 [c6,c7]=some y4:=by simpa [ZdS] using hf 4 _ rfl
 simp only[List.map_cons,List.map_nil,Rows.uptoBulk,Rows.uptoBulkAll] at hb ⊢
 obtain⟨k,hc0,_,_⟩:=DataW.trod_int Tryz.underlying3 u0
 obtain⟨o,hc3,_,_⟩:=DataW.trod_int Tryz.underlying3 u2
 obtain⟨p,a,len,cap,ts,hc1,ht,hcap,hp,hw⟩:=Zl7 (by omega) u1
 obtain⟨tl,⟨hcl,hlt⟩,_⟩:=ZiW u3
 obtain⟨tr,⟨hcr,hrt⟩,_⟩:=ZiW u4
 cases hc0
 cases hc1
 cases hc3
 cases hcl
 cases hcr
 have:=ht.2.1
 exact⟨⟨k,⟨p,ts⟩,o,tl,tr⟩,⟨a,len,cap,rfl,ht,hcap,hp,hlt,hrt⟩,by show ts.length*3+1≤_;omega⟩
theorem Zpg {α:Type}(f:α→Nat)(c:Nat)(l:List α):(l.map fun x=>f x+c).sum=(l.map f).sum+l.length*c:=by
 induction l with
 |nil=>simp
 |cons x l ih=>rw[List.map_cons,List.map_cons,List.sum_cons,List.sum_cons,ih,List.length_cons,Nat.succ_mul];omega
theorem ZqP {W:World}{base:Nat}{n:Nat}{cs:List Value}{x:DataW H×List MemPlace}(hb:Rows.uptoBulk x.1≤1048576)(h:DataW.trod enc Tryz.prog W base (fun _=>true) true n 25 cs=some x):
  ∃(a:Option Addr) (len cap:Nat) (ls:List K.Lit),cs=[.slice a len cap]∧Zbl W a len ls∧ZgM a len cap∧(ls.map fun l=>l.atom.terms.length*3).sum≤Rows.uptoBulk x.1:=by
 obtain⟨a,len,cap,ts,h1,h2,h3,h4,h5⟩:=Zei Tryz.underlying25 Zh8 (by omega) (fun (l:K.Lit) cs=>∃(a:Option Addr) (len cap:Nat),cs=[.int .i64 l.kind,.string l.atom.pred,.slice a len cap,.int .i64 l.op,.int .i64 l.left.kind,.string l.left.text,.int .i64 l.right.kind,.string l.right.text]∧Zaq W a len l.atom.terms∧ZgM a len cap∧l.atom.pred.size≤maxLen∧l.left.text.size≤maxLen∧l.right.text.size≤maxLen) (fun l=>l.atom.terms.length*3+1) (fun m cs' y hy' hy=>Zs6 hy' hy) hb h
 rw[Zpg,h2] at h4
 refine⟨a,len,cap,ts,h1,⟨by omega,h2,fun i l hl=>?_⟩,h3,by omega⟩
 obtain⟨b,off,cs',q1,⟨al,nl,cl,rfl,q3⟩,q4⟩:=h5 i l hl
 exact⟨b,off,q1,al,nl,cl,q4 0 (by omega),q4 1 (by omega),q4 2 (by omega),q4 3 (by omega),q4 4 (by omega),q4 5 (by omega),q4 6 (by omega),q4 7 (by omega),q3⟩
theorem ZqQ {W:World}{base:Nat}{n:Nat}{cs:List Value}{x:DataW H×List MemPlace}(hb:Rows.uptoBulk x.1≤1048576)(h:DataW.trod enc Tryz.prog W base (fun _=>true) true n 27 cs=some x):
  ∃(r:ZaQ) (ah:Option Addr) (nh ch:Nat) (ab:Option Addr) (nb cb:Nat),cs=[.string r.head.pred,.slice ah nh ch,.slice ab nb cb]∧ZaR W r ah nh ch ab nb cb∧(Zad r).length≤1000000:=by
 obtain⟨y0,y1,m,rfl,hl,u0,u1⟩:=trod_struct2 Tryz.underlying27 h
 rw[Zho] at hl
 obtain⟨c0,c1,c2,rfl⟩:=ZjZ hl
 simp only[ZeY,ZkZ,List.drop,List.take] at u0 u1
 simp only[Rows.uptoBulk,Rows.uptoBulkAll] at hb
 obtain⟨p,a,len,cap,ts,hc,ht,hcap,hp,_⟩:=Zl7 (by omega) u0
 obtain⟨a2,len2,cap2,ls,hc2,hls,hcap2,hs⟩:=ZqP (by omega) u1
 cases hc
 cases hc2
 refine⟨⟨⟨p,ts⟩,ls⟩,a,len,cap,a2,len2,cap2,rfl,⟨hp,ht,hls,hcap,hcap2⟩,?_⟩
 have h1:=Zo2 ⟨⟨p,ts⟩,ls⟩
 have h2:(ls.map Zfy).sum*3≤(ls.map fun l=>l.atom.terms.length*3).sum:=by
  clear hls hs h1
  induction ls with
  |nil=>simp
  |cons l ls ih=>
   rw[List.map_cons,List.map_cons,List.sum_cons,List.sum_cons,Nat.add_mul]
   have:Zfy l≤l.atom.terms.length:=by
    unfold Zfy
    split <;> omega
   omega
 have h3:(Zad ⟨⟨p,ts⟩,ls⟩).length≤(ls.map Zfy).sum:=h1
 omega
theorem ZqR {W:World}{base:Nat}{n:Nat}{cs:List Value}{x:DataW H×List MemPlace}(hb:Rows.uptoBulk x.1≤1048576)(h:DataW.trod enc Tryz.prog W base (fun _=>true) true n 54 cs=some x):
  ∃r:List ByteArray,(∃(a:Option Addr) (len cap:Nat),cs=[.slice a len cap]∧Zai W a len r∧(a=none→len=0∧cap=0)∧len≤8796093022207)∧1≤Rows.uptoBulk x.1:=by
 obtain⟨a,len,cap,ts,h1,h2,h3,h4,h5⟩:=Zei Tryz.underlying54 Zez (by omega) (fun (s:ByteArray) cs=>cs=[.string s]) (fun _=>1) (fun m cs' y _ hy=>by
  obtain⟨t,rfl,e,_⟩:=DataW.trod_string Tryz.underlying9 hy
  refine⟨t,rfl,?_⟩
  rw[e]
  simp only[Rows.uptoBulk]
  omega) hb h
 rw[Zhp,h2] at h4
 refine⟨ts,⟨a,len,cap,h1,⟨by unfold maxLen;omega,h2,fun i t ht=>?_⟩,h3.2,by omega⟩,by omega⟩
 obtain⟨b,off,cs',q1,rfl,q4⟩:=h5 i t ht
 exact⟨b,off,q1,q4 0 (by omega)⟩
theorem ZqS {W:World}{base:Nat}{n:Nat}{cs:List Value}{x:DataW H×List MemPlace}(hb:Rows.uptoBulk x.1≤1048576)(h:DataW.trod enc Tryz.prog W base (fun _=>true) true n 50 cs=some x):
  ∃(a:Option Addr) (len cap:Nat) (rs:List (List ByteArray)),cs=[.slice a len cap]∧Zce ZpY 1 W a len rs∧len≤maxLen∧len+1≤Rows.uptoBulk x.1:=by
 obtain⟨a,len,cap,ts,h1,h2,h3,h4,h5⟩:=Zei Tryz.underlying50 Zk0 (by omega) (fun (r:List ByteArray) cs=>∃(a:Option Addr) (len cap:Nat),cs=[.slice a len cap]∧Zai W a len r∧(a=none→len=0∧cap=0)∧len≤8796093022207) (fun _=>1) (fun m cs' y hy' hy=>ZqR hy' hy) hb h
 rw[Zhp,h2] at h4
 refine⟨a,len,cap,ts,h1,⟨h2,fun i t ht=>?_⟩,by unfold maxLen;omega,by omega⟩
 obtain⟨b,off,cs',q1,⟨a',n',c',rfl,q3⟩,q4⟩:=h5 i t ht
 exact⟨b,off,q1,a',n',c',q4 0 (by omega),q3⟩
theorem Zs7 {W:World}{base:Nat}{n:Nat}{cs:List Value}{x:DataW H×List MemPlace}(hb:Rows.uptoBulk x.1≤1048576)(h:DataW.trod enc Tryz.prog W base (fun _=>true) true n 57 cs=some x):
  ∃y:Zb3,(∃(a:Option Addr) (len cap:Nat),cs=[.string y.name,.int .i64 y.ar,.slice a len cap]∧len≤maxLen∧Zce ZpY 1 W a len y.rows)∧y.rows.length+4≤Rows.uptoBulk x.1:=by
 obtain⟨y0,y1,y2,m,rfl,hl,u0,u1,u2⟩:=trod_struct3 Tryz.underlying57 h
 rw[Zh9] at hl
 obtain⟨c0,c1,c2,rfl⟩:=ZjZ hl
 simp only[ZdE,Zez,Zk1,List.drop,List.take] at u0 u1 u2
 obtain⟨s,hc0,rfl,_⟩:=DataW.trod_string Tryz.underlying9 u0
 obtain⟨k,hc1,rfl,_⟩:=DataW.trod_int Tryz.underlying3 u1
 simp only[Rows.uptoBulk,Rows.uptoBulkAll] at hb ⊢
 obtain⟨a,len,cap,rs,hc2,hr,hm,hw⟩:=ZqS (by omega) u2
 cases hc0
 cases hc1
 cases hc2
 have:=hr.1
 exact⟨⟨s,k,rs⟩,⟨a,len,cap,rfl,hm,hr⟩,by show rs.length+4≤_;omega⟩
theorem Zl8 {W:World}{base:Nat}{n:Nat}{cs:List Value}{x:DataW H×List MemPlace}(hb:Rows.uptoBulk x.1≤1048576)(h:DataW.trod enc Tryz.prog W base (fun _=>true) true n 28 cs=some x):
  ∃(a:Option Addr) (len cap:Nat) (xs:List Zb3),cs=[.slice a len cap]∧Zc2 W a len xs∧len≤999999∧ZaZ xs≤2000000:=by
 obtain⟨a,len,cap,ts,h1,h2,h3,h4,h5⟩:=Zei Tryz.underlying28 Zh9 (by omega) (fun (y:Zb3) cs=>∃(a:Option Addr) (len cap:Nat),cs=[.string y.name,.int .i64 y.ar,.slice a len cap]∧len≤maxLen∧Zce ZpY 1 W a len y.rows) (fun y=>y.rows.length+4) (fun m cs' y hy' hy=>Zs7 hy' hy) hb h
 rw[Zpg,h2] at h4
 refine⟨a,len,cap,ts,h1,⟨by unfold maxLen;omega,h2,fun i t ht=>?_⟩,by omega,by unfold ZaZ;omega⟩
 obtain⟨b,off,cs',q1,⟨a',n',c',rfl,q3⟩,q4⟩:=h5 i t ht
 exact⟨b,off,q1,q4 0 (by omega),q4 1 (by omega),a',n',c',q4 2 (by omega),q3⟩
theorem Zm5 {W:World}{base:Nat}{v:Value}{d:DataW H}{p:List MemPlace}(hval:Value.okWide Tryz.prog W .any base 30 v)(hb:Rows.uptoBulk d≤1048576)(h:DataW.Trod enc Tryz.prog W 0 (fun _=>true) true 30 v d p):
  ∃(r:ZaQ) (ah:Option Addr) (nh ch:Nat) (ab:Option Addr) (nb cb:Nat) (xa xl:List Zb3) (a1:Option Addr) (n1 c1:Nat) (a2:Option Addr) (n2 c2:Nat) (no:Int),v=.agg #[.string r.head.pred,.slice ah nh ch,.slice ab nb cb,.slice a1 n1 c1,.slice a2 n2 c2,.int .i64 no]∧ZaR W r ah nh ch ab nb cb∧(Zad r).length≤1000000∧Zc2 W a1 n1 xa∧Zc2 W a2 n2 xl∧n1≤999999∧n2≤999999∧ZaZ xa≤2000000∧ZaZ xl≤2000000:=by
 unfold Value.okWide at hval
 rw[Tryz.underlying30] at hval
 obtain⟨cs,rfl,_⟩:=hval
 obtain⟨n,hn⟩:=h
 obtain⟨y0,y1,y2,y3,m,hx,hl,u0,u1,u2,u3⟩:=Joins.trod_struct4 Tryz.underlying30 hn
 cases hx
 rw[Zk3] at hl
 obtain⟨c0,c1,c2,c3,c4,c5,hcs⟩:=Zs5 hl
 rw[hcs] at u0 u1 u2 u3
 simp only[ZdE,Zho,Zk2,List.drop,List.take] at u0 u1 u2 u3
 simp only[Rows.uptoBulk,Rows.uptoBulkAll] at hb
 obtain⟨r,ah,nh,ch,ab,nb,cb,e0,hr,hv⟩:=ZqQ (by omega) u0
 obtain⟨a1,n1,k1,xa,e1,h1,h2,h3⟩:=Zl8 (by omega) u1
 obtain⟨a2,n2,k2,xl,e2,h4,h5,h6⟩:=Zl8 (by omega) u2
 obtain⟨no,e3,_,_⟩:=DataW.trod_int Tryz.underlying3 u3
 cases e0
 cases e1
 cases e2
 cases e3
 refine⟨r,ah,nh,ch,ab,nb,cb,xa,xl,a1,n1,k1,a2,n2,k2,no,?_,hr,hv,h1,h4,h2,h5,h3,h6⟩
 have e:cs.toList=[.string r.head.pred,.slice ah nh ch,.slice ab nb cb,.slice a1 n1 k1,.slice a2 n2 k2,.int .i64 no]:=hcs
 obtain⟨l⟩:=cs
 cases e
 rfl
theorem Zk4 {P:Program}{f:Func}{s:ChangeSpec}{apart Zbx handsOn again:Bool}{W W':World}{args:Array Value}{v:Value}{ds gs:List (DataW H)}{before pa pv:List MemPlace}
  (hW:DataW.Whole enc P f.params.toList s.vars apart W args.toList ds gs before) (hb:Ext W W')
  (hres:∀(b:Nat) (sp:Nat→Bool) (hd:Bool),DataW.TrodAll enc P W' b sp hd f.resultTypes.toList (v.resultList f.resultTypes.size) (s.fn H (ds++gs)).results [])
  (hargs:∀sp:Nat→Bool,(∀p∈before,sp p.block=true)→DataW.TrodAll enc P W' 0 sp true f.params.toList args.toList (s.fn H (ds++gs)).args pa)
  (hvars:∀sp:Nat→Bool,(∀p∈before,sp p.block=true)→DataW.TrodVars enc P W' sp s.vars (s.fn H (ds++gs)).vars pv)
  (hps:before=pa++pv)
  (hok:∀(j:Nat) (t:TypeId) (r:Value),f.resultTypes[j]? =some t→(v.resultList f.resultTypes.size)[j]? =some r→Value.okWide P W' .any 0 t r):
  s.post enc P f apart Zbx handsOn again W args v W':=by
 have hlt:∀p∈before,p.block<W.heap.size:=fun p hp=>by simpa using hW.lt p hp
 have hold:∀p∈before,(fun b=>decide (b<W.heap.size)) p.block=true:=fun p hp=>by simpa using hlt p hp
 refine⟨ds,gs,before,[],pa,pv,hW,hres _ _ _,hargs _ hold,hvars _ hold,?_,fun _=>?_⟩
 ·exact hb.frame _
 ·obtain⟨_,_,_,_,_,hz,hn⟩:=hW
  refine⟨hok,_,_,([]++pa)++pv,⟨[]++pa,pv,trodAll_append (hargs _ (fun _ _=>rfl)) (hres _ _ _),hvars _ (fun _ _=>rfl),rfl,?_,?_⟩,?_⟩
  ·intro b off hp
   have hp':MemPlace.cell b off∈before:=by rw[hps];simpa using hp
   rw[hb.frozen (p:=⟨b,off,none⟩) (hlt _ hp')]
   exact hz b off hp'
  ·intro ha
   have:=hn ha
   rw[hps] at this
   simpa using this
  ·intro p hp _
   rw[hps]
   simpa using hp
end
