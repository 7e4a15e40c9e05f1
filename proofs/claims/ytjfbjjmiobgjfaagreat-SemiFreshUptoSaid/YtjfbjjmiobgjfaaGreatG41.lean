/- The walks of the join's Over and of its iterator. -/
import Derived.Test.YtjfbjjmiobgjfaaGreatG37
set_option maxRecDepth 100000
set_option maxHeartbeats 8000000
namespace Go.Proofs.YtjfbjjmiobgjfaaGreat
open ChangeShapes WideShapes ChangeAt RowKit
open K (ZaG Zda ZaQ Zaq Zbl ZaR Zbw Zcm)
theorem ZrB.later {w w':World}{T T':Nat→Prop}{pm n:Nat}{ts:List JT}{pts:List Nat}{p:Nat→List ByteArray→Bool}(h:ZrB w T pm n ts pts p)(e:Ext w w')(hT:∀b,T' b→T b∨w.heap.size≤b):ZrB w' T' pm n ts pts p:=by
 have up:∀W,Zah T' w' W→Zah T w W:=fun W b=>ZbO ((Zah.refl T w).ext e) b hT
 obtain⟨an,cn,h1⟩:=h.names
 obtain⟨aT,ct,h2⟩:=h.tries
 obtain⟨ga,ca,f,g,h3⟩:=h.at_
 obtain⟨gt,c3,h4⟩:=h.tests
 exact⟨h.jok,h.big,h.all,h.nn,h.lens,⟨an,cn,fun W b=>h1 W (up W b)⟩,⟨aT,ct,fun W b=>h2 W (up W b)⟩,⟨ga,ca,f,g,fun W b=>h3 W (up W b)⟩,⟨gt,c3,fun W b=>h4 W (up W b)⟩⟩
theorem Zup (b:Nat)(w:World):(binOp .neq 126 (.pointer (some ⟨b,0,none⟩)) (.pointer none)).run Tryz.prog w=.ok (.bool true) w:=by kernel_rfl
theorem ZqA (l bx:Nat)(w:World)(hb:w.cell? ⟨bx,0,none⟩=some (.pointer none)):Calls Tryz.prog 64 #[.func (.yield l) #[] #[],.pointer (some ⟨bx,0,none⟩)] w fun e w'=>(∃v,e=.returned v)∧w'=w:=by
 go_enter Tryz.func64,Tryz.ntmps64
 go_wp2
 go_end0
 exact⟨⟨_,rfl⟩,rfl⟩
theorem ZsP (l bx pm:Nat)(w:World)(R:World→Prop)(hb:w.cell? ⟨bx,0,none⟩=some (.pointer (some ⟨pm,0,none⟩)))(h:Calls Tryz.prog 65 #[.pointer (some ⟨pm,0,none⟩),.func (.yield l) #[] #[]] w fun e w'=>(∃v,e=.returned v)∧R w'):Calls Tryz.prog 64 #[.func (.yield l) #[] #[],.pointer (some ⟨bx,0,none⟩)] w fun e w'=>(∃v,e=.returned v)∧R w':=by
 have H:=zh h
 have nm:=Zup
 clear h
 go_enter Tryz.func64,Tryz.ntmps64
 go_wp2_with (go_at_call 65;(with_reducible refine H.out.mono ?_);rintro e w2 ⟨⟨v2,rfl⟩,r2⟩)
 go_end0
 exact⟨⟨_,rfl⟩,r2⟩
def ZjN (r:ZaQ)(fs:Nat→ZaT)(w:World)(e:Ending)(w':World):Prop:=∃bx,e=.returned (.func (.func 64) #[] #[.pointer (some ⟨bx,0,none⟩)])∧Ext w w'∧w.heap.size≤bx∧bx<w'.heap.size∧((∃(i:Nat) (l:K.Lit),r.body[i]? =some l∧l.kind=1∧ZcR (Zad r) (fs i) l=[])∧w'.cell? ⟨bx,0,none⟩=some (.pointer none)∨∃pm ts pts S,w'.cell? ⟨bx,0,none⟩=some (.pointer (some ⟨pm,0,none⟩))∧ZrB w' (fun b=>b<w.heap.size) pm (Zad r).length ts pts (ZoA S)∧ZdQ (Zad r) r.body fs r.body.length ts∧ZeD (Zad r) (Zad r).length r.body fs r.body.length S)
theorem ZsQ (r:ZaQ)(ah:Option Addr)(nh ch:Nat)(ab:Option Addr)(nb cb:Nat)(bbs:Nat→Nat)(fs:Nat→ZaT)(asl:Option Addr)(csl:Nat)(w:World)(hr:ZaR w r ah nh ch ab nb cb)(hbs:ZhZ w asl nb bbs fs)(hchk:Zap r=0)(hvl:(Zad r).length≤1000000)(hnb:nb≤1000000):
  Calls Tryz.prog 27 #[.agg #[.string r.head.pred,.slice ah nh ch,.slice ab nb cb],.slice asl nb csl] w (ZjN r fs w):=by
 have e1:Ext w (w.alloc (.cells #[.string r.head.pred,.slice ah nh ch,.slice ab nb cb] 27)):=Zab zbr _
 have MT:=zh (Zqq r ah nh ch ab nb cb bbs fs asl csl _ (hr.keep e1) (hbs.keep e1) hchk hvl hnb)
 have E1:=zh e1
 clear hr hbs hchk hvl hnb e1
 go_enter Tryz.func27,Tryz.ntmps27
 go_wp2_with (go_at_call 63;(with_reducible refine MT.out.mono ?_);rintro e w2 ⟨e2,(⟨hn,rfl⟩|⟨pm,ts,pts,S,rfl,hm,ht,hs⟩)⟩)
 ·go_returns
  exact⟨w2.heap.size,rfl,Zaa E1.out (Zaa e2 (Zab zbr _)),Nat.le_trans E1.out.size e2.size,by simp,.inl ⟨hn,by go_simp⟩⟩
 ·go_returns
  exact⟨w2.heap.size,rfl,Zaa E1.out (Zaa e2 (Zab zbr _)),Nat.le_trans E1.out.size e2.size,by simp,.inr ⟨pm,ts,pts,S,by go_simp,hm.later (Zab zbr _) (fun b hb=>.inl (Nat.lt_of_lt_of_le hb E1.out.size)),ht,hs⟩⟩
def ZkO (w:World)(pb b:Nat):Prop:=∃(a:Addr) (n c i:Nat) (v:Value),w.cell? ⟨pb,1,none⟩=some (.slice (some a) n c)∧i<n∧w.cell? (a.add i)=some v∧v.ownBlock=some b
def Zu5 (pb:Nat)(u:Value)(w w':World):Prop:=∀b,ZkO w' pb b→ZkO w pb b∨u.ownBlock=some b
def ZsR (pb:Nat)(w w':World):Prop:=∀b,ZkO w' pb b→ZkO w pb b∨w.heap.size≤b
theorem Zc6 {w:World}{pb b lo n c:Nat}{a:Option Addr}{e:TypeId}{vs:List Value}(h1:w.cell? ⟨pb,1,none⟩=some (.slice a n c))(h2:w.ownsRow lo e 1 (.slice a n c) n vs):ZkO w pb b↔∃v∈vs,v.ownBlock=some b:=by
 have hl:vs.length=n:=by have:=h2.1;omega
 constructor
 ·rintro⟨a',n',c',i,v,q1,q2,q3,q4⟩
  rw[h1] at q1
  cases q1
  obtain⟨g,c'',e1,_⟩:=Za0 h2 (by omega)
  cases e1
  obtain⟨v',hv'⟩:∃v',vs[i]? =some v':=⟨_,zge (by omega)⟩
  have:=h2.cells (g:=g) rfl i v' hv'
  rw[this] at q3
  cases q3
  exact⟨v,zmg hv',q4⟩
 ·rintro⟨v,hv,q⟩
  obtain⟨i,hi⟩:=List.mem_iff_getElem?.1 hv
  have hil:=(zgs hi).1
  obtain⟨g,c'',e1,_⟩:=Za0 h2 (by omega)
  cases e1
  exact⟨⟨g,0,none⟩,n,c,i,v,h1,by omega,h2.cells (g:=g) rfl i v hi,q⟩
theorem ZkO.but {w w':World}{lo pb ar b:Nat}{rs:List (List ByteArray)}{S:Nat→Prop}(h:Zay w lo pb ar rs)(e:Zah S w w')(h1:¬S pb)(h2:∀g,ZaJ w pb=some g→¬S g):ZkO w' pb b↔ZkO w pb b:=by
 obtain⟨a,c,vs,r1,r2,_⟩:=h.row
 have r1':=e.cell h1 r1
 rw[Zc6 r1 r2,Zc6 r1' (e.own r2 (fun b hb=>h2 b (by unfold ZaJ;rw[r1];cases a with|none=>cases hb|some a=>exact hb)))]
theorem ZqB {w w':World}{pb lo n c g c' i:Nat}{a:Option Addr}{e:TypeId}{vs:List Value}{u:Value}(hlt:pb<lo)(h1:w.cell? ⟨pb,1,none⟩=some (.slice a n c))(h2:w.ownsRow lo e 1 (.slice a n c) n vs)(r1:w'.ownsRow lo e 1 (.slice (some ⟨g,0,none⟩) (n+1) c') (n+1) (vs.take i++u::vs.drop i)) ⦃x:Value⦄ (q:w'.cell? ⟨pb,1,none⟩=some x):Zu5 pb u w (w'.setCell ⟨pb,1,none⟩ (.slice (some ⟨g,0,none⟩) (n+1) c')):=by
 intro b hb
 rw[Zc6 (World.cell?_setCell_same _ _ _ q) (ownsRow_setCell_below r1 (a:=⟨pb,1,none⟩) hlt _)] at hb
 obtain⟨v,hv,e1⟩:=hb
 rcases List.mem_append.1 hv with hv|hv
 ·exact .inl ((Zc6 h1 h2).2 ⟨v,List.mem_of_mem_take hv,e1⟩)
 ·rcases List.mem_cons.1 hv with rfl|hv
  ·exact .inr e1
  ·exact .inl ((Zc6 h1 h2).2 ⟨v,List.mem_of_mem_drop hv,e1⟩)
theorem ZsS {w w1 w':World}{lo pb ar n:Nat}{rs:List (List ByteArray)}{v:Value}{xs:List Value}{e:TypeId}(H:Zay w lo pb ar rs)(he:Ext w w1)(ho:w1.ownsRow w.heap.size e 1 v n xs)(h:Zu5 pb v w1 w'):ZsR pb w w':=fun b hb=>by
 rcases h b hb with q|q
 ·refine .inl ?_
  obtain⟨a,c,vs,r1,r2,_⟩:=H.row
  exact(Zc6 r1 r2).2 ((Zc6 (Zac he r1) (Zar r2 he)).1 q)
 ·exact .inr (ho.lt b q).1
theorem ZsT (lo pb ar:Nat)(rs:List (List ByteArray))(t:List ByteArray)(a:Option Addr)(c:Nat)(w:World)(h:Zay w lo pb ar rs)(hr:Zbg rs)(hu:w.ownsRow lo 9 1 (.slice a t.length c) t.length (t.map Value.string))(hn:rs.length≤65536)(hlo:lo≤w.heap.size):
  Calls Tryz.prog 71 #[.pointer (some ⟨pb,0,none⟩),.slice a t.length c] w fun e w'=>ZiO lo pb ar rs t w e w'∧Zu5 pb (.slice a t.length c) w w':=by
 obtain⟨ai,ci,h1,hit⟩:=h.items (by unfold maxLen;omega)
 obtain⟨a0,c0,vs,h1',h2,h3⟩:=h.row
 rw[h1] at h1'
 cases h1'
 have FIND:=zh (Znk rs t pb ai rs.length ci a t.length c w h.c0 h1 hit (ZaL hu (Za4 hu).1) (hr.cut t) (by omega))
 have hlow:=(ZdP hr t).1
 have h1v:∀v∈vs,v.oneCell'=true:=fun v hv=>by
  obtain⟨k,hk⟩:=List.mem_iff_getElem?.1 hv
  have hlen:vs.length=rs.length:=by have:=h2.1;omega
  have hkl:=(zgs hk).1
  obtain⟨r,hrr⟩:∃r,rs[k]? =some r:=⟨_,zge (by omega)⟩
  obtain⟨_,_,e,_⟩:=Zag (h3 k r v hrr hk)
  rw[e]
  rfl
 have H:=zh h
 have H2:=zh h2
 have H3:=zh h3
 have HU:=zh hu
 have HV:=zh h1v
 have HLOW:=zh hlow
 have HLO:=zh hlo
 clear hit hr hu h1v hlo h2 h3
 obtain⟨f,hf⟩:∃f,ZaX rs t=f:=⟨_,rfl⟩
 have HF:=zh hf
 rw[hf] at FIND
 obtain⟨i,hi⟩:∃i,ZdK rs t=i:=⟨_,rfl⟩
 have HI:=zh hi
 rw[hi] at FIND hlow
 clear hf hi
 have hpw:pb<w.heap.size:=World.block_lt_of_cell? w ⟨pb,1,none⟩ h1
 cases f with
 |true=>
  clear h h1
  go_enter Tryz.func71,Tryz.ntmps71
  go_wp2_with (go_at_call 113;(with_reducible refine FIND.out.mono ?_);rintro e w1 ⟨rfl,hw1⟩;obtain rfl:=hw1.symm)
  go_returns
  exact⟨⟨by rw[HF.out];rfl,by unfold ZaO;rw[if_pos HF.out];exact H.out,Zah.refl _ _,Zfu.refl _ _⟩,fun b hb=>.inl hb⟩
 |false=>
  have hgv:(w.alloc (.cells #[.slice a t.length c] 54)).heap[w.heap.size]? =some (.cells #[.slice a t.length c] 54 (0,0)):=heap_alloc_new w _
  have INS:=zh (ZlU vs (.slice a t.length c) ai rs.length ci i w.heap.size lo (w.alloc (.cells #[.slice a t.length c] 54)) (H2.out.alloc _) HV.out hlow hgv (fun b e=>by have:=(H2.out.lt b e).2;omega) rfl (by omega) (Za3 HLO.out))
  have fr:=h.free
  clear h hgv
  go_enter Tryz.func71,Tryz.ntmps71
  go_wp2_with (first
   |(go_at_call 113;(with_reducible refine FIND.out.mono ?_);rintro e w1 ⟨rfl,hw1⟩;obtain rfl:=hw1.symm)
   |(go_at_call 114;(with_reducible refine INS.out.mono ?_);rintro e w1 ⟨g7,p7,rfl,r1,r2,r3⟩;rw[←HI.out] at r1;have qg:=ZqB H.out.lt h1 H2.out r1;obtain⟨q1,q2,q3,q4,q5⟩:=H.out.put h1 H2.out H3.out HU.out (by rw[HF.out];simp) HLOW.out r1 r2 r3;have qg2:=qg q1))
  go_returns
  exact⟨⟨by rw[HF.out];rfl,q3,q4,q5⟩,qg2⟩
theorem ZsU (lo pb ar:Nat)(rs:List (List ByteArray))(t:List ByteArray)(a:Option Addr)(n c:Nat)(w:World)(h:Zay w lo pb ar rs)(hr:Zbg rs)(ht:Zai w a n t)(hnil:a=none→n=0∧c=0)(hn1:n≤8796093022207)(hn:rs.length≤65536)(hlo:lo≤w.heap.size):
  Calls Tryz.prog 29 #[.pointer (some ⟨pb,0,none⟩),.slice a n c] w fun e w'=>Zmu lo pb ar rs t w e w'∧ZsR pb w w':=by
 have H:=zh h
 have HT:=zh ht
 have HN:=zh hnil
 have HR:=zh hr
 have HL:=zh hlo
 have c2:=h.c2
 have hlen:t.length=n:=ht.2.1
 have HC:Hid ((w.cell? ⟨pb,1,none⟩).isSome=true):=by
  obtain⟨_,_,_,h1,_⟩:=h.row
  show _=_
  rw[h1]
  rfl
 have HAS:=zh (ZhO lo pb ar rs t a n c w h hr (by omega) ht)
 have HLEN:=zh hlen
 clear h ht hnil hr hlo hlen
 by_cases hne:n=ar
 ·subst hne
  obtain⟨b,hb⟩:∃b,ZaP t=b:=⟨_,rfl⟩
  have HB:=zh hb
  have hnn:((n:Int) != (n:Int))=false:=by simp
  cases b with
  |false=>
   have HQ:Hid (Za5 n rs t=31):=by show _=_;unfold Za5;rw[hb,if_neg (by simp[HLEN.out]),if_pos rfl]
   clear hb HAS
   go_enter Tryz.func29,Tryz.ntmps29
   go_wp2_with (go_at_call 68;(with_reducible refine(ZcG t _ _ _ _ HT.out).mono ?_);rw[HB.out];rintro e w1 ⟨rfl,hw1⟩;obtain rfl:=hw1.symm)
   go_ret2
   exact⟨⟨by rw[HQ.out];rfl,by unfold ZbY;rw[HQ.out];exact H.out,Zfu.refl _ _⟩,fun b hb=>.inl hb⟩
  |true=>
   obtain⟨f,hf⟩:∃f,ZaX rs t=f:=⟨_,rfl⟩
   have HF:=zh hf
   rw[hf] at HAS
   have CL:=zh (Ze4 t a n c w HT.out (by omega) HN.out)
   have AD:Hid (∀a' c' w1,w1.ownsRow w.heap.size 9 1 (.slice a' n c') n (t.map Value.string)→Ext w w1→Calls Tryz.prog 71 #[.pointer (some ⟨pb,0,none⟩),.slice a' n c'] w1 (fun e w'=>ZiO lo pb n rs t w1 e w'∧ZsR pb w w')):=by
    intro a' c' w1 ho he
    have:=HLEN.out
    subst this
    exact(ZsT lo pb _ rs t a' c' w1 (H.out.ext he) HR.out (Zao ho HL.out) hn (Nat.le_trans HL.out he.size)).mono fun e w' q=>⟨q.1,ZsS H.out he ho q.2⟩
   by_cases hfull:65536≤rs.length
   ·have hge:decide ((65536:Int)≤(rs.length:Int))=true:=decide_eq_true (by omega)
    cases f with
    |false=>
     have HQ:Hid (Za5 n rs t=4):=by show _=_;unfold Za5;rw[hb,hf,if_neg (by simp[HLEN.out]),if_neg (by simp),if_pos ⟨hfull,rfl⟩]
     clear hb hf hn
     go_enter Tryz.func29,Tryz.ntmps29
     go_wp2_with (first
      |(go_at_call 68;(with_reducible refine(ZcG t _ _ _ _ HT.out).mono ?_);rw[HB.out];rintro e w1 ⟨rfl,hw1⟩;obtain rfl:=hw1.symm)
      |(go_at_call 69;(with_reducible refine(Ze3 lo pb n rs _ H.out).mono ?_);rintro e w1 ⟨rfl,hw1⟩;obtain rfl:=hw1.symm)
      |(go_at_call 70;(with_reducible refine HAS.out.mono ?_);rintro e w1 ⟨rfl,hw1⟩;obtain rfl:=hw1.symm))
     go_ret2
     exact⟨⟨by rw[HQ.out];rfl,by unfold ZbY;rw[HQ.out];exact H.out,Zfu.refl _ _⟩,fun b hb=>.inl hb⟩
    |true=>
     have HQ:Hid (Za5 n rs t=0):=by show _=_;unfold Za5;rw[hb,hf,if_neg (by simp[HLEN.out]),if_neg (by simp),if_neg (by simp)]
     clear hb hf hn
     go_enter Tryz.func29,Tryz.ntmps29
     go_wp2_with (first
      |(go_at_call 68;(with_reducible refine(ZcG t _ _ _ _ HT.out).mono ?_);rw[HB.out];rintro e w1 ⟨rfl,hw1⟩;obtain rfl:=hw1.symm)
      |(go_at_call 69;(with_reducible refine(Ze3 lo pb n rs _ H.out).mono ?_);rintro e w1 ⟨rfl,hw1⟩;obtain rfl:=hw1.symm)
      |(go_at_call 70;(with_reducible refine HAS.out.mono ?_);rintro e w1 ⟨rfl,hw1⟩;obtain rfl:=hw1.symm)
      |(go_at_call 41;(with_reducible refine(Zi6 lo pb n rs _ H.out).mono ?_);rintro e w1 ⟨rfl,hw1⟩;obtain rfl:=hw1.symm)
      |(go_at_call 43;(with_reducible refine CL.out.mono ?_);rintro e w7 ⟨a7,c7,rfl,r7,_,e7⟩)
      |(go_at_call 71;(with_reducible refine(AD.out _ _ _ r7 e7).mono ?_);rintro e w8 ⟨⟨rfl,q8,b8,f8⟩,g8⟩))
     go_ret2
     exact⟨⟨by rw[HQ.out];rfl,by unfold ZbY;rw[HQ.out];exact q8,f8.after e7 HC.out⟩,g8⟩
   ·have hge:decide ((65536:Int)≤(rs.length:Int))=false:=decide_eq_false (by omega)
    have HQ:Hid (Za5 n rs t=0):=by show _=_;unfold Za5;rw[hb,if_neg (by simp[HLEN.out]),if_neg (by simp),if_neg (fun h=>hfull h.1)]
    clear hb hf hn HAS hfull
    go_enter Tryz.func29,Tryz.ntmps29
    go_wp2_with (first
     |(go_at_call 68;(with_reducible refine(ZcG t _ _ _ _ HT.out).mono ?_);rw[HB.out];rintro e w1 ⟨rfl,hw1⟩;obtain rfl:=hw1.symm)
     |(go_at_call 69;(with_reducible refine(Ze3 lo pb n rs _ H.out).mono ?_);rintro e w1 ⟨rfl,hw1⟩;obtain rfl:=hw1.symm)
     |(go_at_call 41;(with_reducible refine(Zi6 lo pb n rs _ H.out).mono ?_);rintro e w1 ⟨rfl,hw1⟩;obtain rfl:=hw1.symm)
     |(go_at_call 43;(with_reducible refine CL.out.mono ?_);rintro e w7 ⟨a7,c7,rfl,r7,_,e7⟩)
     |(go_at_call 71;(with_reducible refine(AD.out _ _ _ r7 e7).mono ?_);rintro e w8 ⟨⟨rfl,q8,b8,f8⟩,g8⟩))
    go_ret2
    exact⟨⟨by rw[HQ.out];rfl,by unfold ZbY;rw[HQ.out];exact q8,f8.after e7 HC.out⟩,g8⟩
 ·have hne2:¬((n:Int)=(ar:Int)):=by omega
  have HQ:Hid (Za5 ar rs t=30):=by show _=_;unfold Za5;rw[if_pos (by rw[HLEN.out];exact hne)]
  clear HAS
  go_enter Tryz.func29,Tryz.ntmps29
  go_wp2
  go_ret2
  exact⟨⟨by rw[HQ.out];rfl,by unfold ZbY;rw[HQ.out];exact H.out,Zfu.refl _ _⟩,fun b hb=>.inl hb⟩
open ChangeShapes WideShapes ChangeAt RowKit Go.Shelf
attribute [local go_sem] Oper.semAt_some
theorem Zay.but3 {w w':World}{lo pb ar:Nat}{rs:List (List ByteArray)}{S:Nat→Prop}(h:Zay w lo pb ar rs)(e:Zah S w w')(h1:¬S pb)(h2:∀g,ZaJ w pb=some g→¬S g)(h3:∀b,ZkO w pb b→¬S b):Zay w' lo pb ar rs∧ZaJ w' pb=ZaJ w pb:=by
 obtain⟨a,c,vs,r1,r2,r3⟩:=h.row
 have ib:=Za6 r1
 have r1':=e.cell h1 r1
 exact⟨⟨h.lt,e.cell h1 h.c0,e.cell h1 h.c2,ZaE e h1 (World.block_lt_of_cell? w ⟨pb,1,none⟩ r1) h.free,a,c,vs,r1',e.own r2 (fun b hb=>h2 b (ib.trans hb)),fun i r v hr hv=>e.own (r3 i r v hr hv) (fun b hb hS=>h3 b ((Zc6 r1 r2).2 ⟨v,zmg hv,hb⟩) hS)⟩,by rw[Za6 r1',ib]⟩
theorem Zay.rowB_ty {w:World}{lo pb ar b:Nat}{rs:List (List ByteArray)}(h:Zay w lo pb ar rs)(hb:ZkO w pb b):Ty w b 9∧lo≤b:=by
 obtain⟨a,c,vs,h1,h2,h3⟩:=h.row
 obtain⟨v,hv,q⟩:=(Zc6 h1 h2).1 hb
 obtain⟨i,hi⟩:=List.mem_iff_getElem?.1 hv
 have hil:=(zgs hi).1
 have hl:vs.length=rs.length:=by have:=h2.1;omega
 have:=h3 i _ v (zge (by omega)) hi
 exact⟨ZaN this q,(this.lt b q).1⟩
theorem ZoU {W:World}{l k:Nat}{o:Obj}(h:W.heap[l]? =some o)(ho:o.isCells=false):W.cell? ⟨l,k,none⟩=none:=by
 cases o <;> first|(simp [World.cell?,h];done)|cases ho
theorem Zai.turn {W:World}{l:Nat}{a:Option Addr}{n:Nat}{x:List ByteArray}(h:Zai W a n x){o1:Obj}(hl:W.heap[l]? =some o1)(ho:o1.isCells=false)(o:Obj):Zai (W.putObj l o) a n x:=⟨h.1,h.2.keep fun b k y hy=>(Zah.putObj (S:=fun b=>b=l) W o rfl).cell (fun q=>by
 subst q
 have h1:W.cell? ⟨b,k,none⟩=some (.string y):=hy
 rw[ZoU hl ho] at h1
 cases h1) hy⟩
theorem ZiS (W:World){l:Nat}(o:Obj)(h:l<W.heap.size):(W.putObj l o).heap[l]? =some o:=by
 simp[World.putObj,h]
theorem Zf8 {W:World}{b:Nat}{v:Value}{t:TypeId}(h:W.heap[b]? =some (.cells #[v] t (0,0))):W.cell? ⟨b,0,none⟩=some v∧W.frozen? ⟨b,0,none⟩=false:=by
 constructor
 ·simp[World.cell?,h]
 ·simp[World.frozen?,h]
structure TkK (wL:World)(T0 K:Nat→Prop)(pr l N:Nat):Prop where
 k:∀b,K b→T0 b∧b<wL.heap.size∧b≠pr∧b≠l∧ZaJ wL pr≠some b
 prt:T0 pr
 tl:T0 l
 ln:N≤l
 lp:l≠pr
structure TkJ (wL:World)(T0 K:Nat→Prop)(pr ar N:Nat)(C:Nat→Prop)(rows:List (List ByteArray))(W:World):Prop where
 but:Zah (fun b=>b=pr∨ZaJ wL pr=some b∨¬T0 b∨N≤b) wL W
 same:∀b,K b→W.heap[b]? =wL.heap[b]?
 typ:∀cs t x,wL.heap[pr]? =some (.cells cs t x)→∃cs',W.heap[pr]? =some (.cells cs' t x)
 itm:ZaJ W pr=ZaJ wL pr∨∃g,ZaJ W pr=some g∧wL.heap.size≤g
 sub:∀b,T0 b→C b
 rows:Zay W (pr+1) pr ar rows
 item:∀g,ZaJ W pr=some g→C g
 blk:∀b,ZkO W pr b→C b
section
variable {wL W W':World} {T0 K C:Nat→Prop} {pr ar l N:Nat} {rows:List (List ByteArray)}
theorem TkJ.prlt (h:TkJ wL T0 K pr ar N C rows W):pr<W.heap.size:=World.block_lt_of_cell? W ⟨pr,0,none⟩ h.rows.c0
theorem TkJ.kbl (S:TkK wL T0 K pr l N)(h:TkJ wL T0 K pr ar N C rows W){b:Nat}(hb:K b):b<W.heap.size:=by
 have h1:=h.same b hb
 have h2:=(S.k b hb).2.1
 rw[Array.getElem?_eq_getElem h2] at h1
 exact(zag h1).1
theorem TkJ.move (S:TkK wL T0 K pr l N)(h:TkJ wL T0 K pr ar N C rows W){T:Nat→Prop}(e:Zah T W W')(n0:∀b,T b→¬T0 b∨N≤b)(nk:∀b,K b→¬T b)(n1:¬T pr)(n2:∀g,ZaJ W pr=some g→¬T g)(n3:∀b,ZkO W pr b→¬T b):TkJ wL T0 K pr ar N C rows W':=by
 obtain⟨r1,r2⟩:=h.rows.but3 e n1 n2 n3
 refine⟨h.but.trans (e.mono fun b _ hb=>.inr (.inr (n0 b hb))),fun b hb=>(e.block b (h.kbl S hb) (nk b hb)).trans (h.same b hb),fun cs t x q=>?_,?_,h.sub,r1,fun g hg=>h.item g (r2 ▸ hg),fun b hb=>h.blk b ((ZkO.but h.rows e n1 n2).1 hb)⟩
 ·obtain⟨cs',q'⟩:=h.typ cs t x q
  exact⟨cs',(e.block pr h.prlt n1).trans q'⟩
 ·rw[r2]
  exact h.itm
theorem TkJ.fin (h:TkJ wL T0 K pr ar N C rows W){T:Nat→Prop}(e:Zah T W W')(n0:∀b,T b→N≤b)(n1:¬T pr)(n2:∀g,ZaJ W pr=some g→¬T g)(n3:∀b,ZkO W pr b→¬T b):Zah (fun b=>b=pr∨ZaJ wL pr=some b∨¬T0 b∨N≤b) wL W'∧(∀cs t x,wL.heap[pr]? =some (.cells cs t x)→∃cs',W'.heap[pr]? =some (.cells cs' t x))∧(ZaJ W' pr=ZaJ wL pr∨∃g,ZaJ W' pr=some g∧wL.heap.size≤g)∧Zay W' (pr+1) pr ar rows:=by
 obtain⟨r1,r2⟩:=h.rows.but3 e n1 n2 n3
 refine⟨h.but.trans (e.mono fun b _ hb=>.inr (.inr (.inr (n0 b hb)))),fun cs t x q=>?_,?_,r1⟩
 ·obtain⟨cs',q'⟩:=h.typ cs t x q
  exact⟨cs',(e.block pr h.prlt n1).trans q'⟩
 ·rw[r2]
  exact h.itm
theorem TkJ.stay (S:TkK wL T0 K pr l N)(h:TkJ wL T0 K pr ar N C rows W){T:Nat→Prop}(e:Zah T W W')(hT:∀b,T b→¬C b):TkJ wL T0 K pr ar N C rows W':=
 h.move S e (fun b hb=>.inl fun q=>hT b hb (h.sub b q)) (fun b hb q=>hT b q (h.sub b (S.k b hb).1)) (fun q=>hT _ q (h.sub _ S.prt)) (fun g hg q=>hT _ q (h.item g hg)) (fun b hb q=>hT _ q (h.blk b hb))
theorem TkJ.up (S:TkK wL T0 K pr l N)(h:TkJ wL T0 K pr ar N C rows W)(e:Ext W W'):TkJ wL T0 K pr ar N C rows W':=h.stay S (Zkp e) (fun _ q=>q.elim)
theorem TkJ.turn (S:TkK wL T0 K pr l N)(h:TkJ wL T0 K pr ar N C rows W)(o:Obj){o1:Obj}(hl:W.heap[l]? =some o1)(ho:o1.isCells=false):TkJ wL T0 K pr ar N C rows (W.putObj l o):=by
 have e:Zah (fun b=>b=l) W (W.putObj l o):=Zah.putObj W o rfl
 refine h.move S e (fun b hb=>.inr (by subst hb;exact S.ln)) (fun b hb=>(S.k b hb).2.2.2.1) (fun q=>S.lp q.symm) (fun g hg q=>?_) (fun b hb q=>?_)
 ·subst q;exact Zpz hl ho (h.rows.item_ty hg).1
 ·subst q;exact Zpz hl ho (h.rows.rowB_ty hb).1
theorem TkJ.nk (S:TkK wL T0 K pr l N)(h:TkJ wL T0 K pr ar N C rows W){b:Nat}(hb:K b):¬(b=pr∨ZaJ W pr=some b):=by
 obtain⟨k1,k2,k3,k4,k5⟩:=S.k b hb
 rintro (q|q)
 ·exact k3 q
 ·rcases h.itm with e|⟨g,e,hg⟩
  ·rw[e] at q;exact k5 q
  ·rw[e] at q;cases q;omega
theorem TkJ.add (S:TkK wL T0 K pr l N)(h:TkJ wL T0 K pr ar N C rows W){rows':List (List ByteArray)}(q1:Zay W' (pr+1) pr ar rows')(q2:Zfu pr W W')(q3:ZsR pr W W'):TkJ wL T0 K pr ar N (fun b=>C b∨(W.heap.size≤b∧b<W'.heap.size)) rows' W':=by
 have hsz:=h.but.size
 refine⟨⟨q2.but.os.trans h.but.os,q2.but.tape.trans h.but.tape,q2.but.output.trans h.but.output,Nat.le_trans hsz q2.but.size,fun b hb hn=>?_⟩,fun b hb=>(q2.but.block b (h.kbl S hb) (h.nk S hb)).trans (h.same b hb),fun cs t x q=>?_,?_,fun b hb=>.inl (h.sub b hb),q1,fun g hg=>?_,fun b hb=>?_⟩
 ·refine(q2.but.block b (Nat.lt_of_lt_of_le hb hsz) fun q=>?_).trans (h.but.block b hb hn)
  rcases q with q|q
  ·exact hn (.inl q)
  ·rcases h.itm with e|⟨g,e,hg⟩
   ·rw[e] at q;exact hn (.inr (.inl q))
   ·rw[e] at q;cases q;omega
 ·obtain⟨cs',q'⟩:=h.typ cs t x q
  exact q2.typ _ _ _ q'
 ·rcases q2.itm with q|⟨g,q,hg⟩
  ·rw[q];exact h.itm
  ·exact .inr ⟨g,q,Nat.le_trans hsz hg⟩
 ·rcases q2.itm with q|⟨g',q,hg'⟩
  ·exact .inl (h.item g (q ▸ hg))
  ·rw[q] at hg
   cases hg
   exact .inr ⟨hg',(q1.item_ty q).1.lt⟩
 ·rcases q3 b hb with q|q
  ·exact .inl (h.blk b q)
  ·exact .inr ⟨q,(q1.rowB_ty hb).1.lt⟩
theorem TkJ.inC (S:TkK wL T0 K pr l N)(h:TkJ wL T0 K pr ar N C rows W)(q2:Zfu pr W W'):Zah C W W':=q2.but.mono fun b _ q=>by
 rcases q with rfl|q
 ·exact h.sub _ S.prt
 ·exact h.item b q
theorem ZsV {rc:LoopState→Option Code→Loop}(S:TkK wL T0 K pr l N)(h:TkJ wL T0 K pr ar N C rows W)(hl:W.heap[l]? =some (.loop (rc .ready none)))(hC:∀b,C b→b<W.heap.size){w2 w9:World}(e2:Ext (W.putObj l (.loop (rc .busy none))) w2){rows':List (List ByteArray)}(q1:Zay w9 (pr+1) pr ar rows')(q2:Zfu pr w2 w9)(q3:ZsR pr w2 w9):
  w9.heap[l]? =some (.loop (rc .busy none))∧TkJ wL T0 K pr ar N (fun b=>C b∨(w2.heap.size≤b∧b<w9.heap.size)) rows' w9∧Zah C W w9∧(∀b,C b∨(w2.heap.size≤b∧b<w9.heap.size)→C b∨W.heap.size≤b)∧∀b,C b∨(w2.heap.size≤b∧b<w9.heap.size)→b<w9.heap.size:=by
 have hlw:=(zag hl).1
 have FB:=h.turn S (.loop (rc .busy none)) hl rfl
 have hlB:=ZiS W (.loop (rc .busy none)) hlw
 have hlBw:=(zag hlB).1
 have F2:=FB.up S e2
 have hl2:=(e2.block l hlBw).trans hlB
 have hl2w:=(zag hl2).1
 have hl9:=(q2.but.block l hl2w (fun q=>by
  rcases q with q|q
  ·exact S.lp q
  ·exact Zpz hl2 rfl (F2.rows.item_ty q).1)).trans hl2
 have hs:W.heap.size≤w2.heap.size:=Nat.le_trans (Zah.putObj (S:=fun b=>b=l) W (.loop (rc .busy none)) rfl).size e2.size
 have B:=((Zah.putObj (S:=C) W (.loop (rc .busy none)) (h.sub _ S.tl)).ext e2).trans (F2.inC S q2)
 refine⟨hl9,F2.add S q1 q2 q3,B,fun b hb=>?_,fun b hb=>?_⟩
 ·rcases hb with hb|hb
  ·exact .inl hb
  ·exact .inr (Nat.le_trans hs hb.1)
 ·rcases hb with hb|hb
  ·exact Nat.lt_of_lt_of_le (hC b hb) B.size
  ·exact hb.2
theorem ZqC (S:TkK wL T0 K pr l N){w9:World}{C':Nat→Prop}{o1:Loop}(hl9:w9.heap[l]? =some (.loop o1))(F9:TkJ wL T0 K pr ar N C' rows w9)(B:Zah C W w9)(hCl:C l)(h1:∀b,C' b→C b∨W.heap.size≤b)(h2:∀b,C' b→b<w9.heap.size)(o:Loop):
  TkJ wL T0 K pr ar N C' rows (w9.putObj l (.loop o))∧(w9.putObj l (.loop o)).heap[l]? =some (.loop o)∧Zah C W (w9.putObj l (.loop o))∧(∀b,C' b→C b∨W.heap.size≤b)∧∀b,C' b→b<(w9.putObj l (.loop o)).heap.size:=by
 have hlw:=(zag hl9).1
 have E:=Zah.putObj (S:=C) w9 (.loop o) hCl
 exact⟨F9.turn S _ hl9 rfl,ZiS _ _ hlw,B.trans E,h1,fun b hb=>Nat.lt_of_lt_of_le (h2 b hb) E.size⟩
structure TkX (wL:World)(T0:Nat→Prop)(pr N p4 D l:Nat)(o:Loop)(er:Int)(C:Nat→Prop)(W:World):Prop where
 but:Zah (fun b=>b=pr∨ZaJ wL pr=some b∨¬T0 b∨N≤b) wL W
 sub:∀b,T0 b→C b
 dfr:W.heap[D]? =some (.deferred (some []))
 rc:W.heap[l]? =some (.loop o)
 c4:W.cell? ⟨p4,0,none⟩=some (.int .i64 er)
theorem TkX.stay {p4 D:Nat}{o:Loop}{er:Int}(h:TkX wL T0 pr N p4 D l o er C W)(hT0:T0 p4∧T0 D∧T0 l){T:Nat→Prop}(e:Zah T W W')(hT:∀b,T b→¬C b):TkX wL T0 pr N p4 D l o er C W':=
 have n:∀b,T0 b→¬T b:=fun b hb q=>hT b q (h.sub b hb)
 ⟨h.but.trans (e.mono fun b _ hb=>.inr (.inr (.inl fun q=>n b q hb))),h.sub,(e.block D (zag h.dfr).1 (n _ hT0.2.1)).trans h.dfr,(e.block l (zag h.rc).1 (n _ hT0.2.2)).trans h.rc,e.cell (n _ hT0.1) h.c4⟩
theorem ZsW (S:TkK wL T0 K pr l N){w9:World}{p4 D:Nat}{t4:TypeId}(k4:K p4)(kD:K D)(hl4:N≤p4)(hD4:D≠p4){v4:Value}(b4:wL.heap[p4]? =some (.cells #[v4] t4 (0,0)))(bD:wL.heap[D]? =some (.deferred (some []))){C':Nat→Prop}{o1:Loop}{er:Int}
  (hl9:w9.heap[l]? =some (.loop o1)) (F9:TkJ wL T0 K pr ar N C' rows w9) (B:Zah C W w9) (hC0:∀b,T0 b→C b) (hC:∀b,C b→b<W.heap.size):
  w9.cell? ⟨p4,0,none⟩=some v4∧w9.frozen? ⟨p4,0,none⟩=false∧∀w',w'=w9.setCell ⟨p4,0,none⟩ (.int .i64 er)→w'.heap[l]? =some (.loop o1)∧∀o:Loop,TkX wL T0 pr N p4 D l o er C (w'.putObj l (.loop o))∧Zah C W (w'.putObj l (.loop o))∧∀b,C b→b<(w'.putObj l (.loop o)).heap.size:=by
 have h4:=(F9.same _ k4).trans b4
 have hD:=(F9.same _ kD).trans bD
 have l4:=(S.k _ k4).2.2.2.1
 have lD:=(S.k _ kD).2.2.2.1
 refine⟨(Zf8 h4).1,(Zf8 h4).2,?_⟩
 rintro w' rfl
 have BS:Zah (fun b=>b=p4) w9 (w9.setCell ⟨p4,0,none⟩ (.int .i64 er)):=(Zah.refl (fun b=>b=p4) w9).set (.inl rfl) _ _
 have c4:(w9.setCell ⟨p4,0,none⟩ (.int .i64 er)).cell? ⟨p4,0,none⟩=some (.int .i64 er):=World.cell?_setCell_same _ _ _ (Zf8 h4).1
 generalize w9.setCell ⟨p4,0,none⟩ (.int .i64 er)=w' at BS c4 ⊢
 have hlw:=(zag hl9).1
 have hDw:=(zag hD).1
 have hl':=(BS.block l hlw (fun q=>l4 q.symm)).trans hl9
 have hD':=(BS.block D hDw hD4).trans hD
 refine⟨hl',fun o=>?_⟩
 have E:=Zah.putObj (S:=fun b=>b=l) w' (.loop o) rfl
 have EC:=Zah.putObj (S:=C) w' (.loop o) (hC0 _ S.tl)
 have hl'w:=(zag hl').1
 have hD'w:=(zag hD').1
 have BC:=B.trans (BS.mono fun b _ q=>by
  subst q
  exact hC0 _ (S.k _ k4).1)
 refine⟨⟨(F9.but.trans (BS.mono fun b _ q=>.inr (.inr (.inr (by subst q;exact hl4))))).trans (E.mono fun b _ q=>.inr (.inr (.inr (by subst q;exact S.ln)))),hC0,(E.block D hD'w lD).trans hD',ZiS _ _ hl'w,E.cell l4 c4⟩,BC.trans EC,fun b hb=>Nat.lt_of_lt_of_le (hC b hb) (BC.trans EC).size⟩
end
theorem ZlX (tmps:Array Value)(p4:Nat)(v4:Value)(W:World)(h4:tmps.getD 4 undef=.pointer (some ⟨p4,0,none⟩))(c4:W.cell? ⟨p4,0,none⟩=some v4):(results Tryz.f26 tmps).run Tryz.prog W=.ok v4 W:=by
 have e4:tmps[4]?.getD undef=.pointer (some ⟨p4,0,none⟩):=by rw[←h4];simp
 simp only[results,Tryz.f26]
 go_simp
def ZlY (r:ZaQ)(fs:Nat→ZaT)(pr nh:Nat)(rows0:List (List ByteArray))(w:World)(e:Ending)(w':World):Prop:=Zah (fun b=>b=pr∨ZaJ w pr=some b) w w'∧((e=.returned (.int .i64 0)∧Zfu pr w w'∧∃rows,Zbs nh rows∧(∀y,y∈rows↔y∈rows0∨∃x,Zee r fs x∧Zbj r x=y)∧Zay w' (pr+1) pr nh rows)∨∃er rows x,er≠0∧e=.returned (.int .i64 er)∧Zbs nh rows∧(∀y∈rows,y∈rows0∨∃x,Zee r fs x∧Zbj r x=y)∧Zee r fs x∧Za5 nh rows (Zbj r x)=er)
theorem Zuq (r:ZaQ)(ah:Option Addr)(nh ch:Nat)(ab:Option Addr)(nb cb:Nat)(bbs:Nat→Nat)(fs:Nat→ZaT)(asl:Option Addr)(csl p1 prb pr:Nat)(rows0:List (List ByteArray))(w:World)(W0:World)(hW0:Ext W0 w)(hpw:W0.heap.size≤pr)(hr:ZaR W0 r ah nh ch ab nb cb)(hbs:ZhZ w asl nb bbs fs)(hbok:∀i,i<r.body.length→Zfp (fs i))(hchk:Zap r=0)(hagg:r.head.terms.any Zlt=false)(hvl:(Zad r).length≤1000000)(hnb:nb≤1000000)
  (h1:w.heap[p1]? =some (.cells #[.string r.head.pred,.slice ah nh ch,.slice ab nb cb] 27 (0,0))) (hprb:w.heap[prb]? =some (.cells #[.pointer (some ⟨pr,0,none⟩)] 40 (0,0))) (hpr:Zay w (pr+1) pr nh rows0) (hty:Ty w pr 100) (hok:Zbs nh rows0):
  Calls Tryz.prog 26 #[.slice asl nb csl,.pointer (some ⟨p1,0,none⟩),.pointer (some ⟨prb,0,none⟩)] w (ZlY r fs pr nh rows0 w):=by
 have HL:=zh hr.terms.2.1
 have H64:Hid (nh≤64):=hok.wide
 have HAGG:=zh hagg
 have HCHK:=zh hchk
 have HR:=zh hr
 have HVL:=zh hvl
 have HBOK:=zh hbok
 have HOK:=zh hok
 have HP1:=zh h1
 have HPRB:=zh hprb
 have HPR:=zh hpr
 have HTY:=zh hty
 have OV:Hid (∀W,Ext w W→Calls Tryz.prog 27 #[.agg #[.string r.head.pred,.slice ah nh ch,.slice ab nb cb],.slice asl nb csl] W (ZjN r fs W)):=fun W hW=>ZsQ r ah nh ch ab nb cb bbs fs asl csl W (hr.keep (Zaa hW0 hW)) (hbs.keep hW) hchk hvl hnb
 have a0:w.cell? ⟨p1,0,none⟩=some (.string r.head.pred):=by simp[World.cell?,h1]
 have a1:w.cell? ⟨p1,1,none⟩=some (.slice ah nh ch):=by simp[World.cell?,h1]
 have a2:w.cell? ⟨p1,2,none⟩=some (.slice ab nb cb):=by simp[World.cell?,h1]
 have EA:Hid (∀o,Ext w (w.alloc o)):=fun o=>Zab zbr o
 have A0:=fun o=>Zac (EA.out o) a0
 have A1:=fun o=>Zac (EA.out o) a1
 have A2:=fun o=>Zac (EA.out o) a2
 clear hr hbs hbok hchk hagg hvl hnb h1 hprb hpr hty hok a0 a1 a2
 refine(callsIn_wide (n:=5)).1 ?_
 refine callsIn_of_wp_marks Tryz.func26 rfl trivial ?_
 simp only[Tryz.ntmps26,List.size_toArray,List.length_cons,List.length_nil,Nat.reduceAdd,Nat.reduceSub,Array.replicate_succ,Array.replicate_zero,List.push_toArray,List.append_toArray,List.nil_append,List.cons_append]
 refine wpIn_wide.2 ?_
 go_wp2_with (go_at_call 27;(with_reducible refine(OV.out _ (EA.out _)).mono ?_);rintro e w7 ⟨bx,rfl,e7,z7,l7,m7⟩)
 obtain⟨N,hN⟩:∃N,w.heap.size=N:=⟨_,rfl⟩
 have SZ:(w.alloc (.cells #[.int .i64 0] 41)).heap.size=N+1:=by rw[←hN];simp
 have EW7:Ext w w7:=Zaa (EA.out _) e7
 have z57:N+1≤w7.heap.size:=by rw[←SZ];exact e7.size
 have Q4:w7.heap[N]? =some (.cells #[.int .i64 0] 41 (0,0)):=(e7.block N (by omega)).trans (by rw[←hN];exact heap_alloc_new w _)
 have HN:=zh hN
 have hprN:pr<N:=by rw[←hN];exact HTY.out.lt
 have hp1N:p1<N:=by rw[←hN];exact(zag HP1.out).1
 have hprbN:prb<N:=by rw[←hN];exact(zag HPRB.out).1
 have Q1:w7.heap[p1]? =_:=(EW7.block p1 (by rw[hN];exact hp1N)).trans HP1.out
 have Q7:w7.heap[prb]? =_:=(EW7.block prb (by rw[hN];exact hprbN)).trans HPRB.out
 have V7:Zay w7 (pr+1) pr nh rows0:=HPR.out.ext EW7
 have m7':∀b,b<(w.alloc (.cells #[.int .i64 0] 41)).heap.size↔b<N+1:=fun b=>by rw[SZ]
 clear A0 A1 A2 OV z7
 rw[hN]
 refine(wpIn_wide (n:=5)).1 ?_
 refine ZpO (gf:=64) (lb:=#[.pointer (some ⟨bx,0,none⟩)]) (by omega) rfl (enters_of Tryz.func64 (by kernel_rfl) rfl) ?_
 intro fn
 obtain⟨D,hD⟩:∃D,w7.heap.size=D:=⟨_,rfl⟩
 rw[hD]
 generalize hrec:ZdV fn _ _ _ _ D=rc
 obtain⟨w8,hw8⟩:∃w8,(w7.alloc (.deferred (some []))).alloc (.loop (rc .ready none))=w8:=⟨_,rfl⟩
 rw[hw8]
 have E8:Ext w7 w8:=by rw[←hw8];exact Zab (Zab zbr _) _
 have sz8:w8.heap.size=D+2:=by rw[←hw8];simp;omega
 have hl8:w8.heap[D+1]? =some (.loop (rc .ready none)):=by
  rw[←hw8]
  have:=World.alloc_heap_new (w7.alloc (.deferred (some []))) (.loop (rc .ready none))
  rwa [World.size_alloc,hD] at this
 have hD8:w8.heap[D]? =some (.deferred (some [])):=by
  rw[←hw8,←hD]
  exact(Below.heap_alloc _ _ _ (by simp)).trans (World.alloc_heap_new w7 _)
 clear hw8
 have R1:=(E8.block p1 (by omega)).trans Q1
 have R4:=(E8.block N (by omega)).trans Q4
 have R7:=(E8.block prb (by omega)).trans Q7
 have V8:Zay w8 (pr+1) pr nh rows0:=V7.ext E8
 have TY8:Ty w8 pr 100:=(HTY.out.ext EW7).ext E8
 obtain⟨T0,te⟩:∃T0:Nat→Prop,∀b,T0 b↔(b<N+1∨(D≤b∧b<D+2)):=⟨_,fun _=>Iff.rfl⟩
 obtain⟨K,ke⟩:∃K:Nat→Prop,∀b,K b↔(b=p1∨b=prb∨b=N∨b=D):=⟨_,fun _=>Iff.rfl⟩
 have i8l:∀g,ZaJ w8 pr=some g→g<N∧Ty w8 g 54:=fun g hg=>by
  refine⟨?_,(V8.item_ty hg).1⟩
  obtain⟨_,_,_,q,_⟩:=HPR.out.row
  rw[Za6 (Zac (Zaa EW7 E8) q),←Za6 q] at hg
  rw[←hN]
  exact(HPR.out.item_ty hg).1.lt
 have SK:TkK w8 T0 K pr (D+1) N:=⟨fun b hb=>by
  have nt:¬Ty w8 b 54∧¬Ty w8 b 100:=by
   rcases (ke b).1 hb with rfl|rfl|rfl|rfl
   ·exact⟨fun ⟨_,_,q⟩=>(by rw[R1] at q;cases q),fun ⟨_,_,q⟩=>(by rw[R1] at q;cases q)⟩
   ·exact⟨fun ⟨_,_,q⟩=>(by rw[R7] at q;cases q),fun ⟨_,_,q⟩=>(by rw[R7] at q;cases q)⟩
   ·exact⟨fun ⟨_,_,q⟩=>(by rw[R4] at q;cases q),fun ⟨_,_,q⟩=>(by rw[R4] at q;cases q)⟩
   ·exact⟨fun ⟨_,_,q⟩=>(by rw[hD8] at q;cases q),fun ⟨_,_,q⟩=>(by rw[hD8] at q;cases q)⟩
  have n1:b≠pr:=fun e=>by rw[e] at nt;exact nt.2 TY8
  have n2:ZaJ w8 pr≠some b:=fun e=>nt.1 (i8l b e).2
  rcases (ke b).1 hb with h|h|h|h <;> exact⟨(te b).2 (by omega),by omega,n1,by omega,n2⟩,(te pr).2 (by omega),(te (D+1)).2 (by omega),by omega,by omega⟩
 have TE:=zh te
 have KE:=zh ke
 have hB0:∀b,T0 b→b<w8.heap.size:=fun b hb=>by have:=(TE.out b).1 hb;omega
 have i8:∀g,ZaJ w8 pr=some g→T0 g:=fun g hg=>(TE.out g).2 (by have:=(i8l g hg).1;omega)
 have k8:∀b,ZkO w8 pr b→T0 b:=fun b hb=>by
  obtain⟨a,c,vs,h1,h2,_⟩:=HPR.out.row
  have hb':=(Zc6 h1 h2).2 ((Zc6 (Zac (Zaa EW7 E8) h1) (Zar h2 (Zaa EW7 E8))).1 hb)
  have:=(HPR.out.rowB_ty hb').1.lt
  exact(TE.out b).2 (by omega)
 have F8:TkJ w8 T0 K pr nh N T0 rows0 w8:=⟨Zah.refl _ _,fun _ _=>rfl,fun cs t x h=>⟨cs,h⟩,.inl rfl,fun _ h=>h,V8,i8,k8⟩
 obtain⟨J,je⟩:∃J:Ze7,∀done C W,J done C W↔((∃rows,Zbs nh rows∧(∀y,y∈rows↔y∈rows0∨∃x∈done,Zbj r x=y)∧TkJ w8 T0 K pr nh N C rows W)∧(∀x∈done,Zee r fs x)∧W.heap[D+1]? =some (.loop (rc .ready none))):=⟨_,fun _ _ _=>Iff.rfl⟩
 obtain⟨Jx,jxe⟩:∃Jx:(Nat→Prop)→World→Prop,∀C W,Jx C W↔∃er rows x,er≠0∧Zbs nh rows∧(∀y∈rows,y∈rows0∨∃x,Zee r fs x∧Zbj r x=y)∧Zee r fs x∧Za5 nh rows (Zbj r x)=er∧TkX w8 T0 pr N N D (D+1) (rc .done (some .ret)) er C W:=⟨_,fun _ _=>Iff.rfl⟩
 have JE:=zh je
 have JXE:=zh jxe
 clear te ke je jxe
 have I08:ZaJ w8 pr=ZaJ w pr:=by
  obtain⟨_,_,_,q,_⟩:=HPR.out.row
  rw[Za6 (Zac (Zaa EW7 E8) q),←Za6 q]
 have E08:Ext w w8:=Zaa EW7 E8
 have LOW:∀W',Zah (fun b=>b=pr∨ZaJ w8 pr=some b∨¬T0 b∨N≤b) w8 W'→Ext W0 W':=fun W' hb=>Zaw (Zaa hW0 E08) hb fun b hb q=>by
  have h1:=hW0.size
  rw[hN] at h1
  rcases q with q|q|q|q
  ·omega
  ·have:=(V8.item_ty q).2
   omega
  ·exact q ((TE.out b).2 (by omega))
  ·omega
 have FRM:∀W',Zah (fun b=>b=pr∨ZaJ w8 pr=some b∨¬T0 b∨N≤b) w8 W'→Zah (fun b=>b=pr∨ZaJ w pr=some b) w W':=fun W' hb=>⟨hb.os.trans E08.os,hb.tape.trans E08.tape,hb.output.trans E08.output,Nat.le_trans E08.size hb.size,fun b hl hn=>(hb.block b (Nat.lt_of_lt_of_le hl E08.size) (fun q=>by
  rw[hN] at hl
  rcases q with q|q|q|q
  ·exact hn (.inl q)
  ·rw[I08] at q;exact hn (.inr q)
  ·exact q ((TE.out b).2 (by omega))
  ·omega)).trans (E08.block b hl)⟩
 have T4:T0 N∧T0 D∧T0 (D+1):=⟨(TE.out _).2 (by omega),(TE.out _).2 (by omega),(TE.out _).2 (by omega)⟩
 have hJ:∀done (C T:Nat→Prop) (W W':World),J done C W→Zah T W W'→(∀b,T b→¬C b)→J done C W':=fun done C T W W' h e hT=>by
  obtain⟨⟨rows,h1,h2,h3⟩,h5,h4⟩:=(JE.out done C W).1 h
  exact(JE.out done C W').2 ⟨⟨rows,h1,h2,h3.stay SK e hT⟩,h5,(e.block _ (zag h4).1 (fun q=>hT _ q (h3.sub _ SK.tl))).trans h4⟩
 have hJx:∀(C T:Nat→Prop) (W W':World),Jx C W→Zah T W W'→(∀b,T b→¬C b)→Jx C W':=fun C T W W' h e hT=>by
  obtain⟨er,rows,x,q1,q2,q3,q4,q5,q6⟩:=(JXE.out C W).1 h
  exact(JXE.out C W').2 ⟨er,rows,x,q1,q2,q3,q4,q5,q6.stay T4 e hT⟩
 have h0:J [] T0 w8:=(JE.out _ _ _).2 ⟨⟨rows0,HOK.out,fun y=>by simp,F8⟩,by simp,hl8⟩
 have IT:Hid (Calls Tryz.prog 64 #[.func (.yield (D+1)) #[] #[],.pointer (some ⟨bx,0,none⟩)] w8 fun e W=>(∃v,e=.returned v)∧∃done C,((∀x,x∈done↔Zee r fs x)∧J done C W)∨Jx C W):=by
  show Calls _ _ _ _ _
  rcases m7 with⟨m1,m2⟩|⟨pm,ts,pts,S,m1,m2,m3,m4⟩
  ·refine(ZqA (D+1) bx w8 (Zac E8 m2)).mono ?_
   rintro e W ⟨hv,rfl⟩
   exact⟨hv,[],T0,.inl ⟨fun x=>⟨fun h=>by simp at h,fun h=>absurd h (ZmT HBOK.out HCHK.out m1 x)⟩,h0⟩⟩
  ·refine(ZsP (D+1) bx pm w8 (fun W=>∃C,J (Zcv ts (ZoA S) (Zad r).length 0 []) C W∨Jx C W) (Zac E8 m1) (Zt9 T0 pm (Zad r).length (D+1) ts pts (ZoA S) w8 (m2.later E8 (fun b hb=>by have:=(TE.out b).1 hb;rw[m7'];omega)) hB0 J Jx hJ hJx h0 ?_)).mono ?_
   ·intro done x W C a hj hb hC hx hs ho hm hpp
    have hbx:Zee r fs x:=(ZjH HBOK.out HCHK.out m3 m4 m2.jok m2.all x).1 ((Zjd m2.jok m2.all x (Zad r).length 0 [] (by omega) rfl (Znr.zero m2.jok [])).2 ⟨hx,rfl,fun u _ hu=>hpp u hu,hm⟩)
    obtain⟨⟨rows,h1,h2,F⟩,hbd,hl⟩:=(JE.out done C W).1 hj
    have hl':=hl
    rw[←hrec] at hl'
    refine ZpN hl' rfl ?_
    rw[hrec]
    obtain⟨Wb,hWb⟩:∃Wb,W.putObj (D+1) (.loop (rc .busy none))=Wb:=⟨_,rfl⟩
    rw[hWb]
    have FB:TkJ w8 T0 K pr nh N C rows Wb:=by rw[←hWb];exact F.turn SK _ hl rfl
    have xb:Zai Wb a (Zad r).length x:=by rw[←hWb];exact hs.turn hl rfl _
    have bp1:=(FB.same p1 ((KE.out _).2 (.inl rfl))).trans R1
    have d0:Wb.cell? ⟨p1,0,none⟩=some (.string r.head.pred):=by simp[World.cell?,bp1]
    have d1:Wb.cell? ⟨p1,1,none⟩=some (.slice ah nh ch):=by simp[World.cell?,bp1]
    have d2:Wb.cell? ⟨p1,2,none⟩=some (.slice ab nb cb):=by simp[World.cell?,bp1]
    have hm1:(Zbj r x).length=nh:=by rw[Zev HCHK.out HAGG.out,List.length_map];exact HL.out
    have HRB:ZaR Wb r ah nh ch ab nb cb:=HR.out.keep (LOW _ FB.but)
    have HD:=ZsA r ah nh ch ab nb cb x a (Zad r).length (Zad r).length Wb HRB xb rfl HVL.out HCHK.out
    obtain⟨t,ht⟩:∃t,Zbj r x=t:=⟨_,rfl⟩
    unfold ZlM at HD
    rw[hm1,ht] at HD
    rw[ht] at hm1
    have HDH:=zh HD
    have nlt:=H64.out
    have AD:Hid (∀a' c' w2,Ext Wb w2→Zai w2 a' nh t→(a'=none→nh=0∧c'=0)→Calls Tryz.prog 29 #[.pointer (some ⟨pr,0,none⟩),.slice a' nh c'] w2 fun e w'=>Zmu (pr+1) pr nh rows t w2 e w'∧ZsR pr w2 w'):=fun a' c' w2 e2 s2 n2=>by
     have h9:=FB.up SK e2
     exact ZsU (pr+1) pr nh rows t a' nh c' w2 h9.rows h1.up s2 n2 (by omega) h1.few (World.block_lt_of_cell? w2 ⟨pr,0,none⟩ h9.rows.c0)
    have k7:∀w2,Ext Wb w2→w2.cell? ⟨prb,0,none⟩=some (.pointer (some ⟨pr,0,none⟩)):=fun w2 e2=>(Zf8 (((FB.up SK e2).same prb ((KE.out _).2 (by simp))).trans R7)).1
    have K7:=zh k7
    have HT:=zh ht
    have F0:=zh F
    have HLL:=zh hl
    have HCC:=zh hC
    have HWB:=zh hWb
    have H1:=zh h1
    have H2:=zh h2
    have HBX:=zh hbx
    have HBD:=zh hbd
    obtain⟨er,her⟩:∃er,Za5 nh rows t=er:=⟨_,rfl⟩
    unfold Zmu at AD
    rw[her] at AD
    have HER:=zh her
    have FN:Hid (∀w2 w9,Ext Wb w2→Zay w9 (pr+1) pr nh (ZbY nh rows t)→Zfu pr w2 w9→ZsR pr w2 w9→w9.heap[D+1]? =some (.loop (rc .busy none))∧TkJ w8 T0 K pr nh N (fun b=>C b∨(w2.heap.size≤b∧b<w9.heap.size)) (ZbY nh rows t) w9∧Zah C W w9∧(∀b,C b∨(w2.heap.size≤b∧b<w9.heap.size)→C b∨W.heap.size≤b)∧∀b,C b∨(w2.heap.size≤b∧b<w9.heap.size)→b<w9.heap.size):=fun w2 w9 e2 q1 q2 q3=>ZsV SK F0.out HLL.out HCC.out (HWB.out ▸ e2) q1 q2 q3
    clear hj hb hC hs ho hm hl hl' FB F xb bp1 HD h1 h2 ht hWb her k7 hpp hbx hbd HRB
    by_cases h04:er=0
    ·subst h04
     have ne0:((0:Int) != 0)=false:=by decide
     gi_wp2_with (first
      |(refine ⟨trivial,?_⟩;gi_at_call 28;refine(CallsIn.inRound (D+1) (callsIn_wide.2 HDH.out)).mono ?_;rintro e w2 ⟨a2,c2,rfl,s2,n2,e2⟩;have y7:=K7.out w2 e2)
      |(refine ⟨trivial,?_⟩;gi_at_call 29;refine(CallsIn.inRound (D+1) (callsIn_wide.2 (AD.out a2 c2 w2 e2 s2 n2))).mono ?_;rintro e w9 ⟨⟨rfl,v9,f9⟩,n9⟩))
     obtain⟨u1,u2,u3,u4,u5⟩:=FN.out w2 w9 e2 v9 f9 n9
     obtain⟨r1,r2,r3,r4,r5⟩:=ZqC SK u1 u2 u3 (F0.out.sub _ SK.tl) u4 u5 (rc .ready none)
     refine⟨u1,_,.inl ⟨rfl,(JE.out _ _ _).2 ⟨⟨_,H1.out.add t,fun y=>?_,r1⟩,fun x' hx'=>?_,r2⟩⟩,r3,r4,r5⟩
     ·unfold ZbY
      rw[if_pos HER.out,Zes H1.out.up,H2.out]
      constructor
      ·rintro (rfl|h|⟨x',h,e⟩)
       ·exact .inr ⟨x,by simp,HT.out⟩
       ·exact .inl h
       ·exact .inr ⟨x',by simp[h],e⟩
      ·rintro (h|⟨x',h,e⟩)
       ·exact .inr (.inl h)
       ·rcases List.mem_append.1 h with h|h
        ·exact .inr (.inr ⟨x',h,e⟩)
        ·rw[List.mem_singleton.1 h,HT.out] at e
         exact .inl e.symm
     ·rcases List.mem_append.1 hx' with h|h
      ·exact HBD.out x' h
      ·rw[List.mem_singleton.1 h]
       exact HBX.out
    ·have HNE:=zh h04
     have ne4:(er != 0)=true:=by simpa using h04
     gi_wp2_with (first
      |(refine ⟨trivial,?_⟩;gi_at_call 28;refine(CallsIn.inRound (D+1) (callsIn_wide.2 HDH.out)).mono ?_;rintro e w2 ⟨a2,c2,rfl,s2,n2,e2⟩;have y7:=K7.out w2 e2)
      |(refine ⟨trivial,?_⟩;gi_at_call 29;refine(CallsIn.inRound (D+1) (callsIn_wide.2 (AD.out a2 c2 w2 e2 s2 n2))).mono ?_;rintro e w9 ⟨⟨rfl,v9,f9⟩,n9⟩;obtain⟨u1,u2,u3,u4,u5⟩:=FN.out w2 w9 e2 v9 f9 n9;obtain⟨s4a,s4f,FX⟩:=ZsW SK (p4:=N) (D:=D) (er:=er) ((KE.out _).2 (by simp)) ((KE.out _).2 (by simp)) (Nat.le_refl _) (by omega) R4 hD8 u1 u2 u3 F0.out.sub HCC.out))
     obtain⟨g1,g2⟩:=FX _ rfl
     obtain⟨x1,x2,x3⟩:=g2 (rc .done (some .ret))
     refine⟨g1,C,.inr ⟨rfl,(JXE.out _ _).2 ⟨er,rows,x,HNE.out,H1.out,fun y hy=>?_,HBX.out,by rw[HT.out];exact HER.out,x1⟩⟩,x2,fun b hb=>.inl hb,x3⟩
     rcases (H2.out y).1 hy with h|⟨x',h,e⟩
     ·exact .inl h
     ·exact .inr ⟨x',HBD.out x' h,e⟩
   ·rintro e W ⟨hv,C,h|h⟩
    ·exact⟨hv,_,C,.inl ⟨ZjH HBOK.out HCHK.out m3 m4 m2.jok m2.all,h⟩⟩
    ·exact⟨hv,[],C,.inr h⟩
 refine CallsIn.mono (callsIn_wide.2 IT.out) ?_
 rintro e W ⟨hv,done,C,⟨hd,hj⟩|hj⟩
 ·obtain⟨⟨rows,h1,h2,F⟩,hbd,hl⟩:=(JE.out done C W).1 hj
  refine⟨hv,.ready,none,(fun h=>by cases h),hl,.inl ⟨rfl,?_⟩⟩
  obtain⟨Wf,hWf⟩:∃Wf,W.putObj (D+1) (.loop (rc .exhausted none))=Wf:=⟨_,rfl⟩
  rw[hWf]
  have FF:TkJ w8 T0 K pr nh N C rows Wf:=by rw[←hWf];exact F.turn SK _ hl rfl
  have h4:=(FF.same N ((KE.out _).2 (by simp))).trans R4
  obtain⟨c4,f4⟩:=Zf8 h4
  have hDf:=(FF.same D ((KE.out _).2 (by simp))).trans hD8
  have H4:=zh h4
  have FFH:=zh FF
  have HDF:=zh hDf
  have C4:=zh c4
  have HH:=zh (And.intro hd (And.intro h1 h2))
  clear FF hDf h4 hWf hl F hj hd h1 h2 hv R1 R4 R7 hD8 hl8 Q1 Q4 Q7 m7 hbd
  gi_wp2
  go_wp2
  obtain⟨W9,hW9⟩:∃W9,Wf.setCell ⟨N,0,none⟩ (.int .i64 0)=W9:=⟨_,rfl⟩
  rw[hW9]
  have BS:Zah (fun b=>b=N) Wf W9:=by rw[←hW9];exact(Zah.refl (fun b=>b=N) Wf).set (.inl rfl) _ _
  have k4:W9.cell? ⟨N,0,none⟩=some (.int .i64 0):=by
   rw[←hW9]
   exact World.cell?_setCell_same _ _ _ C4.out
  have hK:=(BS.block D (zag HDF.out).1 (by omega)).trans HDF.out
  have BD:=Zah.putObj (S:=fun b=>b=D) W9 (.deferred none) rfl
  have BK:Zah (fun b=>b=N∨b=D) Wf (W9.putObj D (.deferred none)):=(BS.mono fun b _ q=>.inl q).trans (BD.mono fun b _ q=>.inr q)
  have nty:∀b,(b=N∨b=D)→¬Ty Wf b 54∧¬Ty Wf b 9:=fun b hb=>by
   rcases hb with rfl|rfl
   ·exact⟨fun ⟨_,_,q⟩=>(by rw[H4.out] at q;cases q),fun ⟨_,_,q⟩=>(by rw[H4.out] at q;cases q)⟩
   ·exact⟨Zpz HDF.out rfl,Zpz HDF.out rfl⟩
  obtain⟨x1,x2,x3,x4⟩:=FFH.out.fin BK (fun b hb=>by omega) (fun q=>by omega) (fun g hg q=>(nty g q).1 (FFH.out.rows.item_ty hg).1) (fun b hb q=>(nty b q).2 (FFH.out.rows.rowB_ty hb).1)
  refine⟨by simp,.inl ⟨_,_,rfl,run_takeDeferred hK,?_⟩⟩
  have xF:=FRM _ x1
  refine⟨_,ZlX _ N _ _ rfl (BD.cell (by omega) k4),xF,.inl ⟨rfl,⟨xF,?_,fun cs t x q=>x2 cs t x ((E08.block pr (by rw[hN];exact hprN)).trans q)⟩,rows,HH.out.2.1,fun y=>?_,x4⟩⟩
  ·rw[←I08]
   rcases x3 with q|⟨g,q,hg⟩
   ·exact .inl q
   ·exact .inr ⟨g,q,Nat.le_trans E08.size hg⟩
  ·rw[HH.out.2.2]
   exact⟨fun h=>h.imp id fun ⟨x,hx,e⟩=>⟨x,(HH.out.1 x).1 hx,e⟩,fun h=>h.imp id fun ⟨x,hx,e⟩=>⟨x,(HH.out.1 x).2 hx,e⟩⟩
 ·obtain⟨er,rows,x,y1,y2,y3,y4,y5,FX⟩:=(JXE.out C W).1 hj
  refine⟨hv,.done,some .ret,(fun h=>by cases h),FX.rc,.inr ⟨_,rfl,?_⟩⟩
  have BL:=Zah.putObj (S:=fun b=>b=D+1) W (.loop (rc .exhausted (some .ret))) rfl
  have hK:=(BL.block D (zag FX.dfr).1 (by omega)).trans FX.dfr
  have k4:=BL.cell (b:=N) (by omega) FX.c4
  have xb:=FX.but.trans (BL.mono fun b _ q=>.inr (.inr (.inr (by omega))))
  generalize W.putObj (D+1) (.loop (rc .exhausted (some .ret)))=W9 at BL hK k4 xb ⊢
  have BD:=Zah.putObj (S:=fun b=>b=D) W9 (.deferred none) rfl
  have HK:=zh hK
  have X4:=zh (BD.cell (b:=N) (by omega) k4)
  have XB:=zh (FRM _ (xb.trans (BD.mono fun b _ q=>.inr (.inr (.inr (by omega))))))
  have Y:=zh (And.intro y1 (And.intro y2 (And.intro y3 (And.intro y4 y5))))
  clear FX BL hK k4 xb BD hj R1 R4 R7 hD8 hl8 Q1 Q4 Q7 m7 y1 y2 y3 y4 y5
  gi_wp2
  refine⟨by simp,.inl ⟨_,_,rfl,run_takeDeferred HK.out,?_⟩⟩
  exact⟨_,ZlX _ N _ _ rfl X4.out,XB.out,.inr ⟨er,rows,x,Y.out.1,rfl,Y.out.2.1,Y.out.2.2.1,Y.out.2.2.2.1,Y.out.2.2.2.2⟩⟩
