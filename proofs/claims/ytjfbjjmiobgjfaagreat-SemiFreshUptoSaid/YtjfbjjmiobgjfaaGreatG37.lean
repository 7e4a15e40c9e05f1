/- The walk of the join's match: for any rule that may be joined, each literal over a base of its own. -/
import Derived.Test.YtjfbjjmiobgjfaaGreatG35
import Derived.Test.YtjfbjjmiobgjfaaGreatG36
set_option maxRecDepth 100000
set_option maxHeartbeats 8000000
namespace Go.Proofs.YtjfbjjmiobgjfaaGreat
theorem Zdz {α:Type}(l:List α)(i:Nat)(a:α):l.toArray.setIfInBounds i a=(l.set i a).toArray:=List.setIfInBounds_toArray ..
theorem ZdA {α:Type}(a b:α)(l:List α):(a::l).set 0 b=b::l:=List.set_cons_zero ..
theorem ZdB {α:Type}(a b:α)(l:List α)(n:Nat):(a::l).set (n+1) b=a::l.set n b:=List.set_cons_succ ..
abbrev ZuX:Oper:=⟨some 56,.fieldAddr 66 (.tmp 7) 1,0, "leap.go:76",#[],none⟩
abbrev ZuY:Oper:=⟨some 57,.load 24 (.tmp 56),24, "leap.go:76",#[⟨0,.data⟩],none⟩
abbrev ZuZ:Oper:=⟨some 58,.move (.tmp 8),35, "leap.go:76",#[],none⟩
abbrev Zu0:Oper:=⟨some 59,.move (.tmp 5),126, "leap.go:76",#[],none⟩
abbrev Zu1:Oper:=⟨some 60,.nilCheck (.tmp 59),0, "leap.go:76",#[⟨3,.data⟩],none⟩
abbrev Zu2:Oper:=⟨some 61,.fieldAddr 160 (.tmp 60) 0,0, "leap.go:76",#[⟨4,.data⟩],none⟩
abbrev Zu3:Oper:=⟨some 62,.load 54 (.tmp 61),54, "leap.go:76",#[⟨5,.data⟩],none⟩
open ChangeShapes WideShapes ChangeAt RowKit
open K (ZaG Zda ZaQ Zaq Zbl ZaR Zbw Zcm)
set_option linter.unusedSimpArgs false
structure ZdQ (names:List ByteArray)(ls:List K.Lit)(fs:Nat→ZaT)(k:Nat)(ts:List JT):Prop where
 fro:∀t∈ts,t.vars≠[]∧∃(i:Nat) (l:K.Lit),i<k∧ls[i]? =some l∧l.kind=1∧Zsx names (fs i) l t
 has:∀(i:Nat) (l:K.Lit),i<k→ls[i]? =some l→l.kind=1→ZcR names (fs i) l≠[]∧(ZaC names l.atom.terms≠[]→∃t∈ts,Zsx names (fs i) l t)
theorem ZdQ.nil (names:List ByteArray)(ls:List K.Lit)(fs:Nat→ZaT):ZdQ names ls fs 0 []:=⟨by simp,fun i l h=>by omega⟩
theorem ZdQ.other {names:List ByteArray}{ls:List K.Lit}{fs:Nat→ZaT}{k:Nat}{ts:List JT}{l:K.Lit}(h:ZdQ names ls fs k ts)(hl:ls[k]? =some l)(h1:l.kind≠1):ZdQ names ls fs (k+1) ts:=
 ⟨fun t ht=>⟨(h.fro t ht).1,by obtain⟨i,l',q1,q2⟩:=(h.fro t ht).2;exact⟨i,l',by omega,q2⟩⟩,fun i l' hi hl' hk=>by
  by_cases hik:i<k
  ·exact h.has i l' hik hl' hk
  ·obtain rfl:i=k:=by omega
   rw[hl] at hl'
   cases hl'
   exact absurd hk h1⟩
theorem ZdQ.none {names:List ByteArray}{ls:List K.Lit}{fs:Nat→ZaT}{k:Nat}{ts:List JT}{l:K.Lit}(h:ZdQ names ls fs k ts)(hl:ls[k]? =some l)(h1:ZcR names (fs k) l≠[])(h2:ZaC names l.atom.terms=[]):ZdQ names ls fs (k+1) ts:=
 ⟨fun t ht=>⟨(h.fro t ht).1,by obtain⟨i,l',q1,q2⟩:=(h.fro t ht).2;exact⟨i,l',by omega,q2⟩⟩,fun i l' hi hl' hk=>by
  by_cases hik:i<k
  ·exact h.has i l' hik hl' hk
  ·obtain rfl:i=k:=by omega
   rw[hl] at hl'
   cases hl'
   exact⟨h1,fun e=>absurd h2 e⟩⟩
theorem ZdQ.one {names:List ByteArray}{ls:List K.Lit}{fs:Nat→ZaT}{k:Nat}{ts:List JT}{l:K.Lit}{t:JT}(h:ZdQ names ls fs k ts)(hl:ls[k]? =some l)(hk1:l.kind=1)(h1:ZcR names (fs k) l≠[])(h2:t.vars≠[])(h3:Zsx names (fs k) l t):ZdQ names ls fs (k+1) (ts++[t]):=
 ⟨fun t' ht=>by
  rcases List.mem_append.1 ht with q|q
  ·exact⟨(h.fro t' q).1,by obtain⟨i,l',q1,q2⟩:=(h.fro t' q).2;exact⟨i,l',by omega,q2⟩⟩
  ·rw[List.mem_singleton.1 q]
   exact⟨h2,k,l,by omega,hl,hk1,h3⟩,fun i l' hi hl' hk=>by
  by_cases hik:i<k
  ·obtain⟨a,b⟩:=h.has i l' hik hl' hk
   exact⟨a,fun e=>by obtain⟨t',q1,q2⟩:=b e;exact⟨t',by simp[q1],q2⟩⟩
  ·obtain rfl:i=k:=by omega
   rw[hl] at hl'
   cases hl'
   exact⟨h1,fun _=>⟨t,by simp,h3⟩⟩⟩
def Zb1 (names:List ByteArray)(f:ZaT)(l:K.Lit):Zhc:=
 if l.kind=2 then (Zf4 (ZaC names l.atom.terms),fun x=>!ZaX (ZcR names f l) ((ZaC names l.atom.terms).map (gt x)))
 else (max (Zcy names l.left.kind l.left.text) (Zcy names l.right.kind l.right.text),fun x=>ZkB l.op (Zco x (Zcy names l.left.kind l.left.text) l.left.text) (Zco x (Zcy names l.right.kind l.right.text) l.right.text))
structure ZeD (names:List ByteArray)(n:Nat)(ls:List K.Lit)(fs:Nat→ZaT)(k:Nat)(S:List Zhc):Prop where
 pre:∀s∈S,Zhd n s
 len:S.length≤k
 all:∀x:List ByteArray,(∀s∈S,s.2 x=true)↔∀(i:Nat) (l:K.Lit),i<k→ls[i]? =some l→l.kind≠1→(Zb1 names (fs i) l).2 x=true
theorem ZeD.nil (names:List ByteArray)(n:Nat)(ls:List K.Lit)(fs:Nat→ZaT):ZeD names n ls fs 0 []:=⟨by simp,by simp,fun x=>⟨fun _ i l h=>by omega,fun _ s hs=>by cases hs⟩⟩
theorem ZeD.pos {names:List ByteArray}{n:Nat}{ls:List K.Lit}{fs:Nat→ZaT}{k:Nat}{S:List Zhc}{l:K.Lit}(h:ZeD names n ls fs k S)(hl:ls[k]? =some l)(h1:l.kind=1):ZeD names n ls fs (k+1) S:=
 ⟨h.pre,Nat.le_succ_of_le h.len,fun x=>(h.all x).trans ⟨fun q i l' hi hl' hk=>by
  by_cases hik:i<k
  ·exact q i l' hik hl' hk
  ·obtain rfl:i=k:=by omega
   rw[hl] at hl'
   cases hl'
   exact absurd h1 hk,fun q i l' hi=>q i l' (by omega)⟩⟩
theorem ZeD.snoc {names:List ByteArray}{n:Nat}{ls:List K.Lit}{fs:Nat→ZaT}{k:Nat}{S:List Zhc}{l:K.Lit}(h:ZeD names n ls fs k S)(hl:ls[k]? =some l)(h1:l.kind≠1)(hp:Zhd n (Zb1 names (fs k) l)):ZeD names n ls fs (k+1) (S++[Zb1 names (fs k) l]):=
 ⟨fun s hs=>by
  rcases List.mem_append.1 hs with q|q
  ·exact h.pre s q
  ·rw[List.mem_singleton.1 q];exact hp,by have:=h.len;simp;omega,fun x=>⟨fun q i l' hi hl' hk=>by
  by_cases hik:i<k
  ·exact(h.all x).1 (fun s hs=>q s (by simp[hs])) i l' hik hl' hk
  ·obtain rfl:i=k:=by omega
   rw[hl] at hl'
   cases hl'
   exact q _ (by simp),fun q s hs=>by
  rcases List.mem_append.1 hs with q1|q1
  ·exact(h.all x).2 (fun i l' hi=>q i l' (by omega)) s q1
  ·rw[List.mem_singleton.1 q1]
   exact q k l (by omega) hl h1⟩⟩
def ZhZ (w:World)(a:Option Addr)(n:Nat)(bbs:Nat→Nat)(fs:Nat→ZaT):Prop:=∀i,i<n→(∃b o,a=some ⟨b,o,none⟩∧w.cell? ⟨b,o+i,none⟩=some (.pointer (some ⟨bbs i,0,none⟩)))∧∃lo,Zbo w lo (bbs i) (fs i)
theorem ZhZ.keep {w w':World}(e:Ext w w'){a:Option Addr}{n:Nat}{bbs:Nat→Nat}{fs:Nat→ZaT}(h:ZhZ w a n bbs fs):ZhZ w' a n bbs fs:=fun i hi=>by
 obtain⟨⟨b,o,h1,h2⟩,lo,h3⟩:=h i hi
 exact⟨⟨b,o,h1,YtjfbjjmiobgjfaaGreat.Zac e h2⟩,lo,h3.ext e⟩
def ZmS (r:ZaQ)(fs:Nat→ZaT)(w:World)(e:Ending)(w':World):Prop:=Ext w w'∧((∃(i:Nat) (l:K.Lit),r.body[i]? =some l∧l.kind=1∧ZcR (Zad r) (fs i) l=[])∧e=.returned (.pointer none)∨∃pm ts pts S,e=.returned (.pointer (some ⟨pm,0,none⟩))∧ZrB w' (fun b=>b<w.heap.size) pm (Zad r).length ts pts (ZoA S)∧ZdQ (Zad r) r.body fs r.body.length ts∧ZeD (Zad r) (Zad r).length r.body fs r.body.length S)
theorem Zqp {w:World}{B:Nat}{av:Option Addr}{m cv:Nat}{vars:List Nat}(h:w.ownsRow B 3 1 (.slice av m cv) m (vars.map ZhV))(hm:vars.length=m):Zon w av vars:=fun j v hj=>by
 have hjl:=(zgs hj).1
 obtain⟨g,c,e,_⟩:=Za0 h (by omega)
 cases e
 have:=h.cells (g:=g) rfl j (ZhV v) (by rw[List.getElem?_map,hj];rfl)
 rw[Addr.add_lit] at this
 exact⟨g,0,rfl,this⟩
theorem ZoD {names:List ByteArray}{t:ZaG}(h:Zbz names t false=true):-1≤Zcy names t.kind t.text∧Zcy names t.kind t.text<(names.length:Int):=by
 unfold Zcy
 split
 ·rename_i hk
  unfold Zbz at h
  rw[if_neg (by omega),if_neg (by omega)] at h
  obtain⟨k,h1,h2⟩:=ZgF (of_decide_eq_true h)
  have:=(zgs h2).1
  rw[h1]
  omega
 ·omega
theorem ZjG {r:ZaQ}(h:Zap r=0){l:K.Lit}(hl:l∈r.body)(hk:l.kind=3):Zbz (Zad r) l.left false=true∧Zbz (Zad r) l.right false=true:=by
 unfold Zap at h
 split at h
 ·cases h
 ·split at h
  ·cases h
  ·split at h
   ·cases h
   ·split at h
    ·cases h
    ·rename_i h4
     have q:Zcr (Zad r) l=false:=by
      by_cases q:Zcr (Zad r) l=true
      ·exact absurd (List.any_eq_true.2 ⟨l,hl,q⟩) h4
      ·simpa using q
     unfold Zcr ZdW at q
     rw[hk] at q
     simp at q
     exact q.1
theorem Zqq (r:ZaQ)(ah:Option Addr)(nh ch:Nat)(ab:Option Addr)(nb cb:Nat)(bbs:Nat→Nat)(fs:Nat→ZaT)(asl:Option Addr)(csl:Nat)(w:World)(hr:ZaR w r ah nh ch ab nb cb)(hbs:ZhZ w asl nb bbs fs)(hchk:Zap r=0)(hvl:(Zad r).length≤1000000)(hnb:nb≤1000000):
  Calls Tryz.prog 63 #[.agg #[.string r.head.pred,.slice ah nh ch,.slice ab nb cb],.slice asl nb csl] w (ZmS r fs w):=by
 have HR:=zh hr
 have HBS:=zh hbs
 have HCHK:=zh hchk
 have HVL:=zh hvl
 have HLB:=zh hr.body.2.1
 obtain⟨n,hn⟩:∃n,(Zad r).length=n:=⟨_,rfl⟩
 have HN:=zh hn
 rw[hn] at HVL
 obtain⟨w1,hw1⟩:∃w1,w1=w.alloc (.cells #[.string r.head.pred,.slice ah nh ch,.slice ab nb cb] 27):=⟨_,rfl⟩
 have E1:Hid (Ext w w1):=by show Ext _ _;rw[hw1];exact Zab zbr _
 have S1:Hid (w1.heap.size=w.heap.size+1):=by show _=_;rw[hw1];simp
 have C1:Hid (w1.cell? ⟨w.heap.size,0,none⟩=some (.string r.head.pred)∧w1.cell? ⟨w.heap.size,1,none⟩=some (.slice ah nh ch)∧w1.cell? ⟨w.heap.size,2,none⟩=some (.slice ab nb cb)):=by refine⟨?_,?_,?_⟩ <;> (rw [hw1];go_simp)
 have CK:Hid (Calls Tryz.prog 23 #[.agg #[.string r.head.pred,.slice ah nh ch,.slice ab nb cb]] w1 fun e w'=>e=.returned (.int .i64 0)∧Ext w1 w'):=by
  have:=Zio r ah nh ch ab nb cb w1 (HR.out.keep E1.out) hvl
  unfold Zb5 at this
  rw[hchk] at this
  exact this
 have VR:Hid (∀w2,Ext w1 w2→Calls Tryz.prog 57 #[.agg #[.string r.head.pred,.slice ah nh ch,.slice ab nb cb]] w2 (Zin (Zad r) w2)):=fun w2 e=>Znu r ah nh ch ab nb cb w2 (HR.out.keep (Zaa E1.out e)) hvl
 clear hr hbs hchk hvl
 have hwr:=Zq2 (show n≤1000000 from HVL.out)
 rw[hw1] at CK
 go_enter Tryz.func63,Tryz.ntmps63
 go_wp2_with (first
  |(go_at_call 23;(with_reducible refine CK.out.mono ?_);rintro e w2 ⟨rfl,e2⟩;rw[←hw1] at e2;have k0:=Zac e2 C1.out.1;have k1:=Zac e2 C1.out.2.1;have k2:=Zac e2 C1.out.2.2)
  |(go_at_call 57;go_loud ((with_reducible refine(VR.out _ e2).mono ?_);rintro e w3 ⟨av,cv,rfl,sv,nv,ov,e3⟩;rw[hn] at sv nv ov;rw[hn];obtain⟨w4,hw4⟩:∃w4,w4=w3.alloc (.cells #[.slice av n cv,.slice none 0 0,.slice none 0 0,.slice none 0 0] 160):=⟨_,rfl⟩;obtain⟨w5,hm5,o5,e5⟩:=Zsy w4 n HVL.out;rw[hw4] at hm5;obtain⟨F5,f50,f52,f53⟩:=Zos hw4 e5;have s4:w4.heap.size=w3.heap.size+1:=(by simp[hw4]);obtain⟨w7,hm7,o7,e7⟩:=Zqh (w5.setCell ⟨w3.heap.size,2,none⟩ (.slice (some ⟨w3.heap.size+1,0,none⟩) n n)) (n+1) (by have:=HVL.out;omega);rw[show ((n+1:Nat):Int)=(n:Int)+1 from rfl] at hm7;have F50:=f50;have F52:=f52 2 (by simp);have F53:=f53 2;obtain⟨F70,F73,f73⟩:=Zot F5 f50 f52 f53 e7;obtain⟨K7,hne7⟩:=Zqg (x:=.slice (some ⟨w3.heap.size+1,0,none⟩) n n) (by have:=E1.out.size;have:=S1.out;have:=e2.size;have:=e3.size;omega) (Zac e3 k2) hw4 e5 e7;have K8:=fun v=>(World.cell?_setCell_other w7 ⟨w3.heap.size,3,none⟩ ⟨w.heap.size,2,none⟩ v (by intro e;injection e with e;exact hne7 e)).trans K7)))
 refine Zba (fun W hW=>?_)
 obtain⟨C0,hM0,hC0,e3W⟩:=Zou (B0:=w.heap.size) (by have:=E1.out.size;have:=e2.size;have:=e3.size;omega) hw4 s4 e5 o5 e7 o7 hW
 have M0:=zh hM0
 have HC0:=zh hC0
 have E3W:=zh e3W
 have EW3:Hid (Ext w w3):=Zaa E1.out (Zaa e2 e3)
 have SV:=zh sv
 obtain⟨pm,hpm⟩:∃pm,w3.heap.size=pm:=⟨_,rfl⟩
 have HPM:=zh hpm
 rw[hpm] at M0 HC0
 rw[hpm]
 clear hW hM0 hC0 e3W hpm hwr sv nv ov e3 e2 k0 k1 k2 hw4 hm5 o5 e5 F5 f50 f52 f53 s4 hm7 o7 e7 F50 F52 F53 F70 F73 f73 K7 hne7 K8 CK VR
 go_loopw [39] (fun u wj=>∃k:Nat,k≤nb∧u=.int .i64 k∧∃(C':Nat→Prop) (ts:List JT) (pts:List Nat) (tl:Nat→List (Int×Value)) (S:List Zhc),ZeJ wj C' w.heap.size pm av n cv (atv ts) pts tl∧(∀b,C' b→pm≤b)∧Ext w3 wj∧Zfo wj C' w.heap.size ts pts∧pts.length=ts.length∧ts.length≤k∧(∀t∈ts,t.Ok n∧t.vars.length≤64∧t.rows.length≤1000000)∧ZdQ (Zad r) r.body fs k ts∧ZjF wj C' w.heap.size n tl S∧ZeD (Zad r) n r.body fs k S) (fun u _=>nb-(intOf u).toNat)
 case atStart=>
  refine⟨0,by omega,rfl,C0,[],[],fun _=>[],[],?_,HC0.out,E3W.out,fun i t pt h=>by simp at h,rfl,by simp,by simp,ZdQ.nil _ _ _,ZjF.nil _ _ _ _,ZeD.nil _ _ _ _⟩
  ·have e:atv ([]:List JT)=fun _=>[]:=by funext v;rfl
   rw[e]
   exact M0.out
 case round=>
  obtain⟨k,hk,rfl,C',ts,pts,tl,S,hmb,hcc,hE,htr,hpl,htl,hok,hto,htll,hsem⟩:=hrel
  have TL:=zh htll
  have SM:=zh hsem
  clear htll hsem
  have MB:=zh hmb
  have CC:=zh hcc
  have HE:=zh hE
  have TR:=zh htr
  have HOK:=zh hok
  have TO:=zh hto
  clear hmb hcc hE htr hok hto
  by_cases hlt:k<nb
  ·have hki:(k:Int)<(nb:Int):=by omega
   have EWR:Hid (Ext w wr):=Zaa EW3.out HE.out
   obtain⟨l,bl,off,hx,rfl,al,nl,cl,h0,h1,h2,h3,h4,h5,h6,h7,h8,h9,h10,h11,h12⟩:=(HR.out.body.keep EWR.out).2.at hlt
   have HX:=zh hx
   have hlm:=zmg hx
   have HXK:Hid (r.body[k]? =some l):=hx
   obtain⟨f,hf⟩:∃f,fs k=f:=⟨_,rfl⟩
   have HF:=zh hf
   obtain⟨bb,hbb⟩:∃b,bbs k=b:=⟨_,rfl⟩
   obtain⟨⟨bB,oB,hasl,hcB⟩,lo,hbv⟩:=HBS.out k hlt
   rw[hf,hbb] at hbv
   rw[hbb] at hcB
   have HB:=zh hbv
   have hlo:=Zdx HCHK.out hlm
   have HKD:Hid (l.kind=1∨l.kind=2∨l.kind=3):=by
    show _∨_
    unfold Zbf at hlo
    split at hlo
    ·omega
    ·split at hlo
     ·omega
     ·cases hlo
   subst hasl
   have hcB2:=Zac EWR.out hcB
   have hcBo:=fun o=>Zac (Zab (Below.refl _ wr) o) hcB2
   have hpm0:=MB.out.c0
   have HLM:=zh hlm
   have BLO:Hid (∀b,b<w.heap.size∨C' b→b<wr.heap.size):=fun b q=>q.elim (fun q=>Nat.lt_of_lt_of_le q EWR.out.size) (fun q=>(MB.out.low b q).2)
   have PLO:Hid (pm<wr.heap.size):=(MB.out.low pm MB.out.cpm).2
   clear hf hbb hbv hcB hlo
   have ADD:Hid (∀(W:World) (fv:Value) (s1:Int),Ext wr W→-1≤s1→s1<(n:Int)→fv.oneCell'=true→Calls Tryz.prog 104 #[.pointer (some ⟨pm,0,none⟩),.agg #[.int .i64 s1,fv]] W (ZlP C' w.heap.size pm av n cv (atv ts) pts tl (s1+1).toNat (s1,fv) W)):=fun W fv s1 e a1 a2 a3=>Zuk C' w.heap.size pm av n cv (atv ts) pts tl _ s1 fv W (MB.out.ext e) (by omega) (by omega) HVL.out (by rw[TL.out.len];have h1:(Zf6 S (s1+1).toNat).length≤S.length:=List.length_filter_le _ _;have h2:=SM.out.len;omega) a3 (Nat.le_trans EWR.out.size e.size)
   have REL2:Hid (∀(W w9:World) (C9:Nat→Prop) (fv:Value),Ext wr W→l.kind≠1→ZpA W C' w.heap.size n fv (Zb1 (Zad r) f l).2→Zhd n (Zb1 (Zad r) f l)→ZeJ w9 C9 w.heap.size pm av n cv (atv ts) pts (Zf5 tl ((Zb1 (Zad r) f l).1+1).toNat (tl ((Zb1 (Zad r) f l).1+1).toNat++[((Zb1 (Zad r) f l).1,fv)]))→ZeU C' C9 W w9→∃(C':Nat→Prop) (ts:List JT) (pts:List Nat) (tl:Nat→List (Int×Value)) (S:List Zhc),ZeJ w9 C' w.heap.size pm av n cv (atv ts) pts tl∧(∀b,C' b→pm≤b)∧Ext w3 w9∧Zfo w9 C' w.heap.size ts pts∧pts.length=ts.length∧ts.length≤k+1∧(∀t∈ts,t.Ok n∧t.vars.length≤64∧t.rows.length≤1000000)∧ZdQ (Zad r) r.body fs (k+1) ts∧ZjF w9 C' w.heap.size n tl S∧ZeD (Zad r) n r.body fs (k+1) S):=fun W w9 C9 fv e hk hs hp m9 mv9=>by
    have h2:=HE.out.size
    have h3:=HPM.out
    refine⟨C9,ts,pts,_,S++[Zb1 (Zad r) f l],m9,fun b hb=>?_,Zaw (Zaa HE.out e) mv9.1 (fun b hb q=>by have:=CC.out b q;omega),(TR.out.ext e).mv mv9,hpl,by omega,HOK.out,TO.out.other HXK.out hk,((TL.out.ext e).snoc (by have:=hp.1;omega) hs).mv mv9,?_⟩
    ·rcases mv9.2 b hb with q|q
     ·exact CC.out b q
     ·have:=PLO.out;have:=e.size;omega
    ·have:=SM.out.snoc HXK.out hk (by rw[HF.out];exact hp)
     rw[HF.out] at this
     exact this
   rcases Decidable.em (l.kind=1) with hk1|hk1
   rotate_left
   ·have hkb:(l.kind==1)=false:=by simpa using hk1
    rcases Decidable.em (l.kind=2) with hk2|hk2
    ·have hkc:(l.kind==2)=true:=by rw[hk2];rfl
     have HK2:=zh hk2
     have hnl:=h8.2.1
     have hl64:l.atom.terms.length≤64:=by
      have q:=Zdx HCHK.out HLM.out
      unfold Zbf at q
      rw[if_pos (.inr hk2),Bool.and_eq_true] at q
      exact of_decide_eq_true q.1
     have HTM:Hid (Zaq wr al nl l.atom.terms):=h8
     have HNL:Hid (nl≤64∧(ZaC (Zad r) l.atom.terms).length≤64):=⟨by omega,Nat.le_trans (Zfn (ZaI r) _) hl64⟩
     have LAID:Hid (∀W2 W,Ext wr W2→Ext W2 W→Calls Tryz.prog 102 #[.agg #[.string l.atom.pred,.slice al nl cl],.pointer (some ⟨bb,0,none⟩),.slice av n cv] W (fun e w'=>∃ax cx pr,e=.returned (.agg #[.slice ax (ZaC (Zad r) l.atom.terms).length cx,.pointer (some ⟨pr,0,none⟩)])∧w'.ownsRow W2.heap.size 3 1 (.slice ax (ZaC (Zad r) l.atom.terms).length cx) (ZaC (Zad r) l.atom.terms).length ((ZaC (Zad r) l.atom.terms).map ZhV)∧Zay w' (pr+1) pr (ZaC (Zad r) l.atom.terms).length (ZcR (Zad r) f l)∧W2.heap.size≤pr∧Ext W2 w')):=fun W2 W e2 hW=>(ZrC (Zad r) l.atom al nl cl av n cv lo bb f W (HB.out.ext (Zaa EWR.out (Zaa e2 hW))) (HTM.out.keep (Zaa e2 hW)) (SV.out.keep (Zaa HE.out (Zaa e2 hW))) HVL.out (by omega) HNL.out.2).mono fun e w' ⟨ax,cx,pr,q1,q2,q3,q4,q5⟩=>⟨ax,cx,pr,q1,Zao q2 hW.size,q3,Nat.le_trans hW.size q4,Zaa hW q5⟩
     have SEM:Hid (Zb1 (Zad r) f l=(Zf4 (ZaC (Zad r) l.atom.terms),fun x=>!ZaX (ZcR (Zad r) f l) ((ZaC (Zad r) l.atom.terms).map (gt x)))):=by show _=_;unfold Zb1;rw[if_pos hk2]
     have HLT:Hid (∀v∈ZaC (Zad r) l.atom.terms,v<n):=fun v hv=>by have:=(ZbT.1 hv).1;rw[HN.out] at this;exact this
     have PRE:Hid (Zhd n (Zb1 (Zad r) f l)):=by show Zhd _ _;rw[SEM.out];exact Zqn (Zeu _ _) HLT.out
     have ROK:Hid (Zbs (ZaC (Zad r) l.atom.terms).length (ZcR (Zad r) f l)):=Zg7 (Zad r) l.atom.terms (Zan f l.atom.pred) HNL.out.2
     obtain⟨hp1,hp2⟩:=ZiM HLT.out
     have HP:=zh (And.intro hp1 hp2)
     clear h8 h9 h10 h11 h12 hx hnl hl64 hp1 hp2
     go_wp2
     obtain⟨p7,hp7⟩:∃p7,wr.heap.size=p7:=⟨_,rfl⟩
     have ew2:Ext wr (wr.alloc (.cells #[.int .i64 2,.string l.atom.pred,.slice al nl cl,.int .i64 l.op,.int .i64 l.left.kind,.string l.left.text,.int .i64 l.right.kind,.string l.right.text] 66)):=Zab zbr _
     have D1:(wr.alloc (.cells #[.int .i64 2,.string l.atom.pred,.slice al nl cl,.int .i64 l.op,.int .i64 l.left.kind,.string l.left.text,.int .i64 l.right.kind,.string l.right.text] 66)).cell? ⟨p7,1,none⟩=some (.string l.atom.pred):=by rw[←hp7];go_simp
     have D2:(wr.alloc (.cells #[.int .i64 2,.string l.atom.pred,.slice al nl cl,.int .i64 l.op,.int .i64 l.left.kind,.string l.left.text,.int .i64 l.right.kind,.string l.right.text] 66)).cell? ⟨p7,2,none⟩=some (.slice al nl cl):=by rw[←hp7];go_simp
     have D3:=Zac ew2 hpm0
     generalize wr.alloc (.cells #[.int .i64 2,.string l.atom.pred,.slice al nl cl,.int .i64 l.op,.int .i64 l.left.kind,.string l.left.text,.int .i64 l.right.kind,.string l.right.text] 66)=W2 at ew2 D1 D2 D3 ⊢
     have EW2:=zh ew2
     have P7:Hid (¬C' p7):=fun q=>by have:=BLO.out p7 (.inr q);omega
     rw[hp7]
     have hdW:Ext W2 W2:=Below.refl _ _
     clear hp7 ew2 hcB2 hcBo hpm0 h0 h1 h2 h3 h4 h5 h6 h7
     go_region_held3 (fun w'=>w'.cell? ⟨p7,1,none⟩=some (.string l.atom.pred)∧w'.cell? ⟨p7,2,none⟩=some (.slice al nl cl)∧w'.cell? ⟨pm,0,none⟩=some (.slice av n cv))
      (first|go_keep|exact⟨Zac g5 D1,Zac g5 D2,Zac g5 D3⟩|exact⟨Zac g6 D1,Zac g6 D2,Zac g6 D3⟩|exact s9|(refine ⟨?_,?_,?_⟩ <;> repeat (first|(with_reducible assumption)|(with_reducible rw[World.cell?_drew]))))
      (first
       |(go_at_call 102;(with_reducible refine(LAID.out W2 _ EW2.out (by repeat (with_reducible (first|exact hdW|apply Zaf)))).mono ?_);rintro e w5 ⟨ax,cx,pr,rfl,ow5,rv5,hpr5,g5⟩)
       |(go_at_call 105;(with_reducible refine(Zoo (ZaC (Zad r) l.atom.terms) ax cx pr w5 (Zqp ow5 rfl) (by have:=HNL.out.2;omega)).mono ?_);rintro e w6 ⟨bt,rfl,m0,m1,m2,e6⟩;have g6:=Zaa g5 e6)
       |(go_at_call 104;(with_reducible refine(ADD.out w6 _ _ (Zaa EW2.out g6) HP.out.1 HP.out.2 rfl).mono ?_);rintro e w9 ⟨⟨v9,rfl⟩,C9,m9,mv9⟩;have s9:=And.intro (mv9.1.cell P7.out (Zac g6 D1)) (And.intro (mv9.1.cell P7.out (Zac g6 D2)) m9.c0))
       |fail)
     all_goals
      have hst:ZpA w6 C' w.heap.size n (.func (.func 132) #[] #[.pointer (some ⟨bt,0,none⟩)]) (Zb1 (Zad r) f l).2:=by
       rw[SEM.out]
       exact Zoz (Z:=W2.heap.size) (fun b q=>Nat.lt_of_lt_of_le (BLO.out b q) EW2.out.size) (rv5.ext e6) hpr5 ROK.out.up (by have:=ROK.out.few;omega) m0 m1 (Nat.le_trans g5.size m2) (Zar ow5 e6) HLT.out (by have:=HNL.out.2;omega)
      have RL:=zh (REL2.out w6 w9 C9 _ (Zaa EW2.out g6) (by have:=HK2.out;omega) hst PRE.out (by rw[SEM.out];exact m9) mv9)
      clear hst m9 mv9 s9 m0 m1 m2 ow5 rv5 hpr5 g5 g6 e6
      go_wp2
      go_roundw
      case rel=>
       obtain⟨C1,ts1,pts1,tl1,S1,r1,r2,r3,r4,r5,r6,r7,r8,r9,r10⟩:=RL.out
       exact⟨k+1,by omega,by go_num,C1,ts1,pts1,tl1,S1,r1,r2,r3,r4,r5,r6,r7,r8,r9,r10⟩
      case measure=>simp[intOf];omega
    ·have hk3:l.kind=3:=by have:=HKD.out;omega
     have hkc:(l.kind==2)=false:=by simpa using hk2
     have hkd:(l.kind==3)=true:=by rw[hk3];rfl
     have HK3:=zh hk3
     obtain⟨cl1,cl2⟩:=ZjG HCHK.out HLM.out hk3
     have SEM:Hid (Zb1 (Zad r) f l=(max (Zcy (Zad r) l.left.kind l.left.text) (Zcy (Zad r) l.right.kind l.right.text),fun x=>ZkB l.op (Zco x (Zcy (Zad r) l.left.kind l.left.text) l.left.text) (Zco x (Zcy (Zad r) l.right.kind l.right.text) l.right.text))):=by show _=_;unfold Zb1;rw[if_neg hk2]
     obtain⟨q1,q2⟩:=ZoD cl1
     obtain⟨q3,q4⟩:=ZoD cl2
     rw[HN.out] at q2 q4
     have PRE:Hid (Zhd n (Zb1 (Zad r) f l)):=by show Zhd _ _;rw[SEM.out];exact ZsC ⟨q1,q2⟩ ⟨q3,q4⟩
     have QS:Hid ((-1≤max (Zcy (Zad r) l.left.kind l.left.text) (Zcy (Zad r) l.right.kind l.right.text)∧max (Zcy (Zad r) l.left.kind l.left.text) (Zcy (Zad r) l.right.kind l.right.text)<(n:Int))∧Zcy (Zad r) l.left.kind l.left.text<(n:Int)∧Zcy (Zad r) l.right.kind l.right.text<(n:Int)):=⟨by omega,q2,q4⟩
     have hnl:=h8.2.1
     clear h8 h9 h10 hx hnl q1 q2 q3 q4 cl1 cl2
     go_wp2
     obtain⟨p7,hp7⟩:∃p7,wr.heap.size=p7:=⟨_,rfl⟩
     obtain⟨o7,ho7⟩:∃o,o=Obj.cells #[.int .i64 3,.string l.atom.pred,.slice al nl cl,.int .i64 l.op,.int .i64 l.left.kind,.string l.left.text,.int .i64 l.right.kind,.string l.right.text] 66:=⟨_,rfl⟩
     have ew2:Ext wr (wr.alloc (.cells #[.int .i64 3,.string l.atom.pred,.slice al nl cl,.int .i64 l.op,.int .i64 l.left.kind,.string l.left.text,.int .i64 l.right.kind,.string l.right.text] 66)):=Zab zbr _
     have D0:(wr.alloc (.cells #[.int .i64 3,.string l.atom.pred,.slice al nl cl,.int .i64 l.op,.int .i64 l.left.kind,.string l.left.text,.int .i64 l.right.kind,.string l.right.text] 66)).cell? ⟨p7,0,none⟩=some (.int .i64 3):=by rw[←hp7];go_simp
     have D1:(wr.alloc (.cells #[.int .i64 3,.string l.atom.pred,.slice al nl cl,.int .i64 l.op,.int .i64 l.left.kind,.string l.left.text,.int .i64 l.right.kind,.string l.right.text] 66)).cell? ⟨p7,1,none⟩=some (.string l.atom.pred):=by rw[←hp7];go_simp
     have D2:(wr.alloc (.cells #[.int .i64 3,.string l.atom.pred,.slice al nl cl,.int .i64 l.op,.int .i64 l.left.kind,.string l.left.text,.int .i64 l.right.kind,.string l.right.text] 66)).cell? ⟨p7,2,none⟩=some (.slice al nl cl):=by rw[←hp7];go_simp
     have D3:(wr.alloc (.cells #[.int .i64 3,.string l.atom.pred,.slice al nl cl,.int .i64 l.op,.int .i64 l.left.kind,.string l.left.text,.int .i64 l.right.kind,.string l.right.text] 66)).cell? ⟨p7,3,none⟩=some (.int .i64 l.op):=by rw[←hp7];go_simp
     have D4:(wr.alloc (.cells #[.int .i64 3,.string l.atom.pred,.slice al nl cl,.int .i64 l.op,.int .i64 l.left.kind,.string l.left.text,.int .i64 l.right.kind,.string l.right.text] 66)).cell? ⟨p7,4,none⟩=some (.int .i64 l.left.kind):=by rw[←hp7];go_simp
     have D5:(wr.alloc (.cells #[.int .i64 3,.string l.atom.pred,.slice al nl cl,.int .i64 l.op,.int .i64 l.left.kind,.string l.left.text,.int .i64 l.right.kind,.string l.right.text] 66)).cell? ⟨p7,5,none⟩=some (.string l.left.text):=by rw[←hp7];go_simp
     have D6:(wr.alloc (.cells #[.int .i64 3,.string l.atom.pred,.slice al nl cl,.int .i64 l.op,.int .i64 l.left.kind,.string l.left.text,.int .i64 l.right.kind,.string l.right.text] 66)).cell? ⟨p7,6,none⟩=some (.int .i64 l.right.kind):=by rw[←hp7];go_simp
     have D7:(wr.alloc (.cells #[.int .i64 3,.string l.atom.pred,.slice al nl cl,.int .i64 l.op,.int .i64 l.left.kind,.string l.left.text,.int .i64 l.right.kind,.string l.right.text] 66)).cell? ⟨p7,7,none⟩=some (.string l.right.text):=by rw[←hp7];go_simp
     have D8:=Zac ew2 hpm0
     clear ho7
     generalize wr.alloc (.cells #[.int .i64 3,.string l.atom.pred,.slice al nl cl,.int .i64 l.op,.int .i64 l.left.kind,.string l.left.text,.int .i64 l.right.kind,.string l.right.text] 66)=W2 at ew2 D0 D1 D2 D3 D4 D5 D6 D7 D8 ⊢
     have EW2:=zh ew2
     have P7:Hid (¬C' p7):=fun q=>by have:=BLO.out p7 (.inr q);omega
     rw[hp7]
     have hdW:Ext W2 W2:=Below.refl _ _
     have CMP:Hid (∀W,Ext W2 W→Calls Tryz.prog 106 #[.agg #[.int .i64 3,.string l.atom.pred,.slice al nl cl,.int .i64 l.op,.int .i64 l.left.kind,.string l.left.text,.int .i64 l.right.kind,.string l.right.text],.slice av n cv] W (Zop (Zcy (Zad r) l.left.kind l.left.text) (Zcy (Zad r) l.right.kind l.right.text) l.op l.left.kind l.right.kind l.left.text l.right.text W)):=fun W e=>ZmN (Zad r) av n cv 3 l.atom.pred al nl cl l.op l.left.kind l.right.kind l.left.text l.right.text W (SV.out.keep (Zaa HE.out (Zaa EW2.out e)))
     clear hp7 ew2 hcB2 hcBo hpm0 h0 h1 h2 h3 h4 h5 h6 h7
     go_region_held3 (fun w'=>w'.cell? ⟨p7,0,none⟩=some (.int .i64 3)∧w'.cell? ⟨p7,1,none⟩=some (.string l.atom.pred)∧w'.cell? ⟨p7,2,none⟩=some (.slice al nl cl)∧w'.cell? ⟨p7,3,none⟩=some (.int .i64 l.op)∧w'.cell? ⟨p7,4,none⟩=some (.int .i64 l.left.kind)∧w'.cell? ⟨p7,5,none⟩=some (.string l.left.text)∧w'.cell? ⟨p7,6,none⟩=some (.int .i64 l.right.kind)∧w'.cell? ⟨p7,7,none⟩=some (.string l.right.text)∧w'.cell? ⟨pm,0,none⟩=some (.slice av n cv))
      (first|go_keep|exact⟨Zac g6 D0,Zac g6 D1,Zac g6 D2,Zac g6 D3,Zac g6 D4,Zac g6 D5,Zac g6 D6,Zac g6 D7,Zac g6 D8⟩|exact s9|(refine ⟨?_,?_,?_,?_,?_,?_,?_,?_,?_⟩ <;> repeat (first|(with_reducible assumption)|(with_reducible rw[World.cell?_drew]))))
      (first
       |(go_at_call 106;(with_reducible refine(CMP.out _ (by repeat (with_reducible (first|exact hdW|apply Zaf)))).mono ?_);rintro e w6 ⟨p1,p2,p3,p4,rfl,m1,m2,⟨m3,m4,m5,m6,m7⟩,m8,mz,g5⟩;have g6:Ext W2 w6:=Zaa (by repeat (with_reducible (first|exact hdW|apply Zaf))) g5)
       |(go_at_call 104;(with_reducible refine(ADD.out w6 _ _ (Zaa EW2.out g6) QS.out.1.1 QS.out.1.2 rfl).mono ?_);rintro e w9 ⟨⟨v9,rfl⟩,C9,m9,mv9⟩;have s9:=And.intro (mv9.1.cell P7.out (Zac g6 D0)) (And.intro (mv9.1.cell P7.out (Zac g6 D1)) (And.intro (mv9.1.cell P7.out (Zac g6 D2)) (And.intro (mv9.1.cell P7.out (Zac g6 D3)) (And.intro (mv9.1.cell P7.out (Zac g6 D4)) (And.intro (mv9.1.cell P7.out (Zac g6 D5)) (And.intro (mv9.1.cell P7.out (Zac g6 D6)) (And.intro (mv9.1.cell P7.out (Zac g6 D7)) m9.c0))))))))
       |fail)
     all_goals
      have hst:ZpA w6 C' w.heap.size n (.func (.func 134) #[] #[.pointer (some ⟨p1,0,none⟩),.pointer (some ⟨p2,0,none⟩),.pointer (some ⟨p3,0,none⟩),.pointer (some ⟨p4,0,none⟩)]) (Zb1 (Zad r) f l).2:=by
       have zz:W2.heap.size≤W2.drew.heap.size:=(Zaf (Below.refl _ W2)).size
       rw[SEM.out]
       exact Zql (Z:=W2.heap.size) (fun b q=>Nat.lt_of_lt_of_le (BLO.out b q) EW2.out.size) mz QS.out.2.1 QS.out.2.2 m1 m2 m3 m4 m5 m6 m7 m8
      have RL:=zh (REL2.out w6 w9 C9 _ (Zaa EW2.out g6) (by have:=HK3.out;omega) hst PRE.out (by rw[SEM.out];exact m9) mv9)
      clear hst m9 mv9 s9 m1 m2 m3 m4 m5 m6 m7 m8 mz g5 g6
      go_wp2
      go_roundw
      case rel=>
       obtain⟨C1,ts1,pts1,tl1,S1,r1,r2,r3,r4,r5,r6,r7,r8,r9,r10⟩:=RL.out
       exact⟨k+1,by omega,by go_num,C1,ts1,pts1,tl1,S1,r1,r2,r3,r4,r5,r6,r7,r8,r9,r10⟩
      case measure=>simp[intOf];omega
   have hkb:(l.kind==1)=true:=by rw[hk1];rfl
   have HK1:=zh hk1
   have hnl:=h8.2.1
   have hl64:l.atom.terms.length≤64:=by
    have q:=Zdx HCHK.out hlm
    unfold Zbf at q
    rw[if_pos (.inl hk1),Bool.and_eq_true] at q
    exact of_decide_eq_true q.1
   have HTM:Hid (Zaq wr al nl l.atom.terms):=h8
   have LAID:Hid (∀W,Ext wr W→Calls Tryz.prog 102 #[.agg #[.string l.atom.pred,.slice al nl cl],.pointer (some ⟨bb,0,none⟩),.slice av n cv] W (Zqd (Zad r) l.atom.terms (Zan f l.atom.pred) W)):=fun W hW=>ZrC (Zad r) l.atom al nl cl av n cv lo bb f W (HB.out.ext (Zaa EWR.out hW)) (HTM.out.keep hW) (SV.out.keep (Zaa HE.out hW)) HVL.out (by omega) (Nat.le_trans (Zfn (ZaI r) _) hl64)
   have HNL:Hid (nl≤64∧(ZaC (Zad r) l.atom.terms).length≤64):=⟨by omega,Nat.le_trans (Zfn (ZaI r) _) hl64⟩
   clear h8 h9 h10 h11 h12 hx hnl hl64
   go_wp2
   obtain⟨p7,hp7⟩:∃p7,wr.heap.size=p7:=⟨_,rfl⟩
   have ew2:Ext wr (wr.alloc (.cells #[.int .i64 1,.string l.atom.pred,.slice al nl cl,.int .i64 l.op,.int .i64 l.left.kind,.string l.left.text,.int .i64 l.right.kind,.string l.right.text] 66)):=Zab zbr _
   have D1:(wr.alloc (.cells #[.int .i64 1,.string l.atom.pred,.slice al nl cl,.int .i64 l.op,.int .i64 l.left.kind,.string l.left.text,.int .i64 l.right.kind,.string l.right.text] 66)).cell? ⟨p7,1,none⟩=some (.string l.atom.pred):=by rw[←hp7];go_simp
   have D2:(wr.alloc (.cells #[.int .i64 1,.string l.atom.pred,.slice al nl cl,.int .i64 l.op,.int .i64 l.left.kind,.string l.left.text,.int .i64 l.right.kind,.string l.right.text] 66)).cell? ⟨p7,2,none⟩=some (.slice al nl cl):=by rw[←hp7];go_simp
   have D3:=Zac ew2 hpm0
   generalize wr.alloc (.cells #[.int .i64 1,.string l.atom.pred,.slice al nl cl,.int .i64 l.op,.int .i64 l.left.kind,.string l.left.text,.int .i64 l.right.kind,.string l.right.text] 66)=W2 at ew2 D1 D2 D3 ⊢
   rw[hp7]
   have EW2:=zh ew2
   have LAID2:Hid (∀W,Ext W2 W→Calls Tryz.prog 102 #[.agg #[.string l.atom.pred,.slice al nl cl],.pointer (some ⟨bb,0,none⟩),.slice av n cv] W (Zqd (Zad r) l.atom.terms (Zan f l.atom.pred) W)):=fun W hW=>LAID.out W (Zaa EW2.out hW)
   have hSS:W2.drew.cell? ⟨p7,1,none⟩=some (.string l.atom.pred)∧W2.drew.cell? ⟨p7,2,none⟩=some (.slice al nl cl)∧W2.drew.cell? ⟨pm,0,none⟩=some (.slice av n cv):=⟨D1,D2,D3⟩
   have mixed:Tryz.prog.follows .mixedOrders=true:=by kernel_rfl
   clear hp7 ew2 D1 D2 D3 LAID hcB2 hcBo hpm0 hk1 hkb hlm h0 h1 h2 h3 h4 h5 h6 h7
   refine Zha (fun w'=>w'.cell? ⟨p7,1,none⟩=some (.string l.atom.pred)∧w'.cell? ⟨p7,2,none⟩=some (.slice al nl cl)∧w'.cell? ⟨pm,0,none⟩=some (.slice av n cv)) 9 mixed hSS (fun hS0=>?_)
   refine ZaB (i:=0) (oi:=ZuX) (v:=?_) rfl (by kernel_rfl) (by kernel_rfl) (by kernel_rfl) (by kernel_rfl) (fun _ _ _ h=>h) (Or.inl ⟨by rfl,?_⟩) (by assumption) ?_
   rotate_left
   focus (intro wS hS;go_simp;try with_reducible rfl)
   try simp only[Act.put,Zdz,ZdA,ZdB]
   refine ZaB (i:=1) (oi:=ZuY) (v:=?_) rfl (by kernel_rfl) (by kernel_rfl) (by kernel_rfl) (by kernel_rfl) (fun _ _ _ h=>h) (Or.inl ⟨by rfl,?_⟩) (by assumption) ?_
   rotate_left
   focus (intro wS hS;obtain⟨s1,s2,s3⟩:=hS;go_simp;try with_reducible rfl)
   try simp only[Act.put,Zdz,ZdA,ZdB]
   refine ZaB (i:=2) (oi:=ZuZ) (v:=?_) rfl (by kernel_rfl) (by kernel_rfl) (by kernel_rfl) (by kernel_rfl) (fun _ _ _ h=>h) (Or.inl ⟨by rfl,?_⟩) (by assumption) ?_
   rotate_left
   focus (intro wS hS;go_simp;try with_reducible rfl)
   try simp only[Act.put,Zdz,ZdA,ZdB]
   refine ZaB (i:=3) (oi:=Zu0) (v:=?_) rfl (by kernel_rfl) (by kernel_rfl) (by kernel_rfl) (by kernel_rfl) (fun _ _ _ h=>h) (Or.inl ⟨by rfl,?_⟩) (by assumption) ?_
   rotate_left
   focus (intro wS hS;go_simp;try with_reducible rfl)
   try simp only[Act.put,Zdz,ZdA,ZdB]
   refine ZaB (i:=4) (oi:=Zu1) (v:=?_) rfl (by kernel_rfl) (by kernel_rfl) (by kernel_rfl) (by kernel_rfl) (fun _ _ _ h=>h) (Or.inl ⟨by rfl,?_⟩) (by assumption) ?_
   rotate_left
   focus (intro wS hS;go_simp;try with_reducible rfl)
   try simp only[Act.put,Zdz,ZdA,ZdB]
   refine ZaB (i:=5) (oi:=Zu2) (v:=?_) rfl (by kernel_rfl) (by kernel_rfl) (by kernel_rfl) (by kernel_rfl) (fun _ _ _ h=>h) (Or.inl ⟨by rfl,?_⟩) (by assumption) ?_
   rotate_left
   focus (intro wS hS;go_simp;try with_reducible rfl)
   try simp only[Act.put,Zdz,ZdA,ZdB]
   refine ZaB (i:=6) (oi:=Zu3) (v:=?_) rfl (by kernel_rfl) (by kernel_rfl) (by kernel_rfl) (by kernel_rfl) (fun _ _ _ h=>h) (Or.inl ⟨by rfl,?_⟩) (by assumption) ?_
   rotate_left
   focus (intro wS hS;obtain⟨s1,s2,s3⟩:=hS;go_simp;try with_reducible rfl)
   try simp only[Act.put,Zdz,ZdA,ZdB]
   refine ZmP (i:=7) (j:=8) (by kernel_rfl) rfl rfl (fun K hK=>?_) (fun K hK=>?_)
   ·go_simp
    go_at_call 102;(with_reducible refine(LAID2.out _ (Zaf zbr)).mono ?_);rintro e w5 ⟨ax,cx,pr,rfl,ow5,rv5,hpr5,e5⟩
    have hS5:=And.intro (Zac e5 hS0.1) (And.intro (Zac e5 hS0.2.1) (Zac e5 hS0.2.2))
    refine hK.out _ _ (fun hne=>?_) ?_
    ·exact hS5
    clear hK K
    try simp only[Act.put,Zdz,ZdA,ZdB]
    refine ZcC (i:=8) (by kernel_rfl) rfl (fun K hK=>?_)
    go_simp
    refine hK.out _ _ (fun hne=>?_) ?_
    ·exact⟨Zac (Zab (Below.refl _ w5) _) hS5.1,Zac (Zab (Below.refl _ w5) _) hS5.2.1,Zac (Zab (Below.refl _ w5) _) hS5.2.2⟩
    clear hK K
    try simp only[Act.put,Zdz,ZdA,ZdB]
    refine ZcC (i:=9) (by kernel_rfl) rfl (fun K hK=>?_)
    go_simp
    refine hK.out _ _ (fun hne=>?_) ?_
    ·exact absurd rfl hne
    clear hK K
    try simp only[Act.put,Zdz,ZdA,ZdB]
    refine ZeV (by kernel_rfl) ?_ _
    have TS:Zqi W2 w5.heap.size ax (ZaC (Zad r) l.atom.terms).length cx pr ((ZaC (Zad r) l.atom.terms).map ZhV) (ZcR (Zad r) f l) (w5.alloc (.cells #[.slice ax (ZaC (Zad r) l.atom.terms).length cx,.pointer (some ⟨pr,0,none⟩)] 163)):=⟨Zaa (Zaf zbr) (Zaa e5 (Zab zbr _)),by go_simp,by go_simp,Zar ow5 (Zab zbr _),rv5.ext (Zab zbr _),hpr5⟩
    go_wp2_with fail
    obtain⟨WX,hWX⟩:∃WX,WX=w5.alloc (.cells #[.slice ax (ZaC (Zad r) l.atom.terms).length cx,.pointer (some ⟨pr,0,none⟩)] 163):=⟨_,rfl⟩
    rw[←hWX]
    have TX:Zqi W2 w5.heap.size ax (ZaC (Zad r) l.atom.terms).length cx pr ((ZaC (Zad r) l.atom.terms).map ZhV) (ZcR (Zad r) f l) WX:=by rw[hWX];exact TS
    have T0:=TX.c0
    have T1:=TX.c1
    have EX:Hid (Ext wr WX):=Zaa EW2.out TX.ext
    have LEN:=zh (Ze3 (pr+1) pr _ (ZcR (Zad r) f l) WX TX.rows)
    have TXH:=zh TX
    obtain⟨m,hm⟩:∃m,(ZaC (Zad r) l.atom.terms).length=m:=⟨_,rfl⟩
    have HM:=zh hm
    rw[hm] at T0
    obtain⟨rs,hrs⟩:∃rs,ZcR (Zad r) f l=rs:=⟨_,rfl⟩
    have HRS:=zh hrs
    rw[hrs] at LEN TXH
    have ROK:Hid (Zbs (ZaC (Zad r) l.atom.terms).length rs):=by
     have:=Zg7 (Zad r) l.atom.terms (Zan f l.atom.pred) HNL.out.2
     rw[←hrs]
     exact this
    clear hWX TS TX hrs
    by_cases hz:rs=[]
    ·subst hz
     clear hm
     go_wp2_with (go_at_call 69;(with_reducible refine LEN.out.mono ?_);rintro e w8 ⟨rfl,hw8⟩;obtain rfl:=hw8.symm)
     go_returns
     exact⟨Zaa EWR.out EX.out,.inl ⟨⟨k,l,HXK.out,HK1.out,by rw[HF.out];exact HRS.out⟩,rfl⟩⟩
    ·have hlz:(((rs.length:Nat):Int)==0)=false:=by
      rw[ZgK]
      have:=List.length_pos_iff.2 hz
      simp
      intro e
      exact absurd e hz
     have HZ:=zh hz
     clear hz
     by_cases hm0:m=0
     ·subst hm0
      have P0:Hid (Calls Tryz.prog 103 #[.pointer (some ⟨pm,0,none⟩),.agg #[.slice ax 0 cx,.pointer (some ⟨pr,0,none⟩)]] WX fun e w'=>(∃v,e=.returned v)∧Ext WX w'):=by
       exact ZrD C' w.heap.size pm av n cv (atv ts) pts tl ax cx pr WX (MB.out.ext EX.out)
      go_wp2_with (first
       |(go_at_call 69;(with_reducible refine LEN.out.mono ?_);rintro e w8 ⟨rfl,hw8⟩;obtain rfl:=hw8.symm)
       |(go_at_call 103;(with_reducible refine P0.out.mono ?_);rintro e w9 ⟨⟨v9,rfl⟩,e9⟩))
      go_roundw
      case rel=>exact⟨k+1,by omega,by go_num,C',ts,pts,tl,S,MB.out.ext (Zaa EX.out e9),CC.out,Zaa HE.out (Zaa EX.out e9),TR.out.ext (Zaa EX.out e9),hpl,by omega,HOK.out,TO.out.none HXK.out (by rw[HF.out,HRS.out];exact HZ.out) (List.eq_nil_of_length_eq_zero HM.out),TL.out.ext (Zaa EX.out e9),SM.out.pos HXK.out HK1.out⟩
      case measure=>simp[intOf];omega
     ·have PT:Hid (Calls Tryz.prog 103 #[.pointer (some ⟨pm,0,none⟩),.agg #[.slice ax m cx,.pointer (some ⟨pr,0,none⟩)]] WX (ZkH C' w.heap.size pm av n cv (atv ts) pts tl (ZaC (Zad r) l.atom.terms) rs WX)):=by
       have ow:=TXH.out.own
       have rv:=TXH.out.rows
       have ok:=ROK.out
       have h64:=HNL.out.2
       rw[HM.out] at ow rv ok h64
       have z2:=EW2.out.size
       have zw:=EWR.out.size
       exact Zua C' w.heap.size pm av n cv (atv ts) pts tl (ZaC (Zad r) l.atom.terms) rs ax m cx pr W2.heap.size WX (MB.out.ext EX.out) ow (by omega) h64 (Zeu _ _) (fun v hv=>by have:=(ZbT.1 hv).1;rw[HN.out] at this;exact this) rv ok (fun b hb=>Nat.lt_of_lt_of_le (MB.out.low b hb).2 z2) (by omega) (fun v=>Nat.le_trans (Zik ts v) (by omega)) TXH.out.low (by omega)
      go_wp2_with (first
       |(go_at_call 69;(with_reducible refine LEN.out.mono ?_);rintro e w8 ⟨rfl,hw8⟩;obtain rfl:=hw8.symm)
       |(go_at_call 103;(with_reducible refine PT.out.mono ?_);rintro e w9 ⟨⟨v9,rfl⟩,C9,pt,ways,s9,d9,m9,mv9,hw1,hw2,hw3,hs9,hst9,hc9,hd9⟩))
      have REL:Hid (∃(C':Nat→Prop) (ts:List JT) (pts:List Nat) (tl:Nat→List (Int×Value)) (S:List Zhc),ZeJ w9 C' w.heap.size pm av n cv (atv ts) pts tl∧(∀b,C' b→pm≤b)∧Ext w3 w9∧Zfo w9 C' w.heap.size ts pts∧pts.length=ts.length∧ts.length≤k+1∧(∀t∈ts,t.Ok n∧t.vars.length≤64∧t.rows.length≤1000000)∧ZdQ (Zad r) r.body fs (k+1) ts∧ZjF w9 C' w.heap.size n tl S∧ZeD (Zad r) n r.body fs (k+1) S):=by
       have hmv:∀x,x∈ways↔x∈ZcR (Zad r) f l:=fun x=>by rw[HRS.out];exact hw2 x
       have hne:ways≠[]:=fun e=>by
        obtain⟨x,hx⟩:=List.exists_mem_of_ne_nil _ HZ.out
        have:=(hw2 x).2 hx
        rw[e] at this
        cases this
       have zw:=EWR.out.size
       have zx:=EX.out.size
       have h3:w3.heap.size≤wr.heap.size:=HE.out.size
       refine⟨C9,ts++[⟨ZaC (Zad r) l.atom.terms,ways⟩],pts++[pt],tl,S,?_,fun b hb=>?_,?_,((TR.out.ext EX.out).mv mv9).snoc hpl (by omega) hd9 hst9 hc9,by simp[hpl],by simp;omega,fun t ht=>?_,?_,(TL.out.ext EX.out).mv mv9,SM.out.pos HXK.out HK1.out⟩
       ·rw[ZlK,←hpl]
        exact m9
       ·rcases mv9.2 b hb with q|q
        ·exact CC.out b q
        ·have:=HPM.out;omega
       ·exact Zaw (Zaa HE.out EX.out) mv9.1 (fun b hb q=>by have:=CC.out b q;have:=HPM.out;omega)
       ·rcases List.mem_append.1 ht with q|q
        ·exact HOK.out t q
        ·rw[List.mem_singleton.1 q]
         refine⟨⟨Zeu _ _,fun v hv=>?_,hw1,hne⟩,HNL.out.2,?_⟩
         ·have:=(ZbT.1 hv).1
          rw[HN.out] at this
          exact this
         ·have:=ROK.out.few
          show ways.length≤_
          omega
       ·exact TO.out.one HXK.out HK1.out (by rw[HF.out,HRS.out];exact HZ.out) (fun e=>hm0 (by rw[←HM.out];show (ZaC (Zad r) l.atom.terms).length=0;rw[show ZaC (Zad r) l.atom.terms=[] from e];rfl)) ⟨rfl,fun x=>by rw[HF.out];exact hmv x⟩
      clear m9 mv9 hw1 hw2 hw3 hs9 hst9 hc9 hd9
      go_roundw
      case rel=>
       obtain⟨C1,ts1,pts1,tl1,S1,r1,r2,r3,r4,r5,r6,r7,r8,r9,r10⟩:=REL.out
       exact⟨k+1,by omega,by go_num,C1,ts1,pts1,tl1,S1,r1,r2,r3,r4,r5,r6,r7,r8,r9,r10⟩
      case measure=>simp[intOf];omega
   ·go_simp
    refine hK.out _ _ (fun hne=>?_) ?_
    ·exact⟨Zac (Zab (Below.refl _ W2.drew) _) hS0.1,Zac (Zab (Below.refl _ W2.drew) _) hS0.2.1,Zac (Zab (Below.refl _ W2.drew) _) hS0.2.2⟩
    clear hK K
    try simp only[Act.put,Zdz,ZdA,ZdB]
    refine ZcC (i:=7) (by kernel_rfl) rfl (fun K hK=>?_)
    go_simp
    go_at_call 102;(with_reducible refine(LAID2.out _ (Zaf (Zab zbr _))).mono ?_);rintro e w5 ⟨ax,cx,pr,rfl,ow5,rv5,hpr5,e5⟩
    obtain⟨TP,TP0,TP1,TPf0,TPf1⟩:=Zsz W2
    have TQ:=(show Ty (W2.alloc (.cells #[.slice none 0 0,.pointer none] 163)).drew _ _ from TP).ext e5
    have TQ0:=Zac e5 (show (W2.alloc (.cells #[.slice none 0 0,.pointer none] 163)).drew.cell? _=_ from TP0)
    have TQ1:=Zac e5 (show (W2.alloc (.cells #[.slice none 0 0,.pointer none] 163)).drew.cell? _=_ from TP1)
    have TQf0:=Zet e5 (show (W2.alloc (.cells #[.slice none 0 0,.pointer none] 163)).drew.cell? _=_ from TP0) TPf0
    have TQf1:=Zet e5 (show (W2.alloc (.cells #[.slice none 0 0,.pointer none] 163)).drew.cell? _=_ from TP1) TPf1
    have eA:Ext W2 w5:=Zaa (Zaf (Zab (Below.refl _ W2) _)) e5
    refine hK.out _ _ (fun hne=>?_) ?_
    ·exact⟨Zac eA hS0.1,Zac eA hS0.2.1,Zac eA hS0.2.2⟩
    clear hK K
    try simp only[Act.put,Zdz,ZdA,ZdB]
    refine ZcC (i:=9) (by kernel_rfl) rfl (fun K hK=>?_)
    go_simp
    refine hK.out _ _ (fun hne=>?_) ?_
    ·exact absurd rfl hne
    clear hK K
    try simp only[Act.put,Zdz,ZdA,ZdB]
    refine ZeV (by kernel_rfl) ?_ _
    have TS:=Zov (W2:=W2) (w6:=w5) TQ TQ0 TQ1 eA (Zao ow5 (Zaf (Zab (Below.refl _ W2) _)).size) rv5 (Nat.le_trans (Zaf (Zab (Below.refl _ W2) _)).size hpr5) (Below.refl W2.heap.size W2).size
    go_wp2_with fail
    obtain⟨WX,hWX⟩:∃WX,WX=(w5.setCell ⟨W2.heap.size,0,none⟩ (.slice ax (ZaC (Zad r) l.atom.terms).length cx)).setCell ⟨W2.heap.size,1,none⟩ (.pointer (some ⟨pr,0,none⟩)):=⟨_,rfl⟩
    rw[←hWX]
    have TX:Zqi W2 W2.heap.size ax (ZaC (Zad r) l.atom.terms).length cx pr ((ZaC (Zad r) l.atom.terms).map ZhV) (ZcR (Zad r) f l) WX:=by rw[hWX];exact TS
    have T0:=TX.c0
    have T1:=TX.c1
    have EX:Hid (Ext wr WX):=Zaa EW2.out TX.ext
    have LEN:=zh (Ze3 (pr+1) pr _ (ZcR (Zad r) f l) WX TX.rows)
    have TXH:=zh TX
    obtain⟨m,hm⟩:∃m,(ZaC (Zad r) l.atom.terms).length=m:=⟨_,rfl⟩
    have HM:=zh hm
    rw[hm] at T0
    obtain⟨rs,hrs⟩:∃rs,ZcR (Zad r) f l=rs:=⟨_,rfl⟩
    have HRS:=zh hrs
    rw[hrs] at LEN TXH
    have ROK:Hid (Zbs (ZaC (Zad r) l.atom.terms).length rs):=by
     have:=Zg7 (Zad r) l.atom.terms (Zan f l.atom.pred) HNL.out.2
     rw[←hrs]
     exact this
    clear hWX TS TX hrs
    by_cases hz:rs=[]
    ·subst hz
     clear hm
     go_wp2_with (go_at_call 69;(with_reducible refine LEN.out.mono ?_);rintro e w8 ⟨rfl,hw8⟩;obtain rfl:=hw8.symm)
     go_returns
     exact⟨Zaa EWR.out EX.out,.inl ⟨⟨k,l,HXK.out,HK1.out,by rw[HF.out];exact HRS.out⟩,rfl⟩⟩
    ·have hlz:(((rs.length:Nat):Int)==0)=false:=by
      rw[ZgK]
      have:=List.length_pos_iff.2 hz
      simp
      intro e
      exact absurd e hz
     have HZ:=zh hz
     clear hz
     by_cases hm0:m=0
     ·subst hm0
      have P0:Hid (Calls Tryz.prog 103 #[.pointer (some ⟨pm,0,none⟩),.agg #[.slice ax 0 cx,.pointer (some ⟨pr,0,none⟩)]] WX fun e w'=>(∃v,e=.returned v)∧Ext WX w'):=by
       exact ZrD C' w.heap.size pm av n cv (atv ts) pts tl ax cx pr WX (MB.out.ext EX.out)
      go_wp2_with (first
       |(go_at_call 69;(with_reducible refine LEN.out.mono ?_);rintro e w8 ⟨rfl,hw8⟩;obtain rfl:=hw8.symm)
       |(go_at_call 103;(with_reducible refine P0.out.mono ?_);rintro e w9 ⟨⟨v9,rfl⟩,e9⟩))
      go_roundw
      case rel=>exact⟨k+1,by omega,by go_num,C',ts,pts,tl,S,MB.out.ext (Zaa EX.out e9),CC.out,Zaa HE.out (Zaa EX.out e9),TR.out.ext (Zaa EX.out e9),hpl,by omega,HOK.out,TO.out.none HXK.out (by rw[HF.out,HRS.out];exact HZ.out) (List.eq_nil_of_length_eq_zero HM.out),TL.out.ext (Zaa EX.out e9),SM.out.pos HXK.out HK1.out⟩
      case measure=>simp[intOf];omega
     ·have PT:Hid (Calls Tryz.prog 103 #[.pointer (some ⟨pm,0,none⟩),.agg #[.slice ax m cx,.pointer (some ⟨pr,0,none⟩)]] WX (ZkH C' w.heap.size pm av n cv (atv ts) pts tl (ZaC (Zad r) l.atom.terms) rs WX)):=by
       have ow:=TXH.out.own
       have rv:=TXH.out.rows
       have ok:=ROK.out
       have h64:=HNL.out.2
       rw[HM.out] at ow rv ok h64
       have z2:=EW2.out.size
       have zw:=EWR.out.size
       exact Zua C' w.heap.size pm av n cv (atv ts) pts tl (ZaC (Zad r) l.atom.terms) rs ax m cx pr W2.heap.size WX (MB.out.ext EX.out) ow (by omega) h64 (Zeu _ _) (fun v hv=>by have:=(ZbT.1 hv).1;rw[HN.out] at this;exact this) rv ok (fun b hb=>Nat.lt_of_lt_of_le (MB.out.low b hb).2 z2) (by omega) (fun v=>Nat.le_trans (Zik ts v) (by omega)) TXH.out.low (by omega)
      go_wp2_with (first
       |(go_at_call 69;(with_reducible refine LEN.out.mono ?_);rintro e w8 ⟨rfl,hw8⟩;obtain rfl:=hw8.symm)
       |(go_at_call 103;(with_reducible refine PT.out.mono ?_);rintro e w9 ⟨⟨v9,rfl⟩,C9,pt,ways,s9,d9,m9,mv9,hw1,hw2,hw3,hs9,hst9,hc9,hd9⟩))
      have REL:Hid (∃(C':Nat→Prop) (ts:List JT) (pts:List Nat) (tl:Nat→List (Int×Value)) (S:List Zhc),ZeJ w9 C' w.heap.size pm av n cv (atv ts) pts tl∧(∀b,C' b→pm≤b)∧Ext w3 w9∧Zfo w9 C' w.heap.size ts pts∧pts.length=ts.length∧ts.length≤k+1∧(∀t∈ts,t.Ok n∧t.vars.length≤64∧t.rows.length≤1000000)∧ZdQ (Zad r) r.body fs (k+1) ts∧ZjF w9 C' w.heap.size n tl S∧ZeD (Zad r) n r.body fs (k+1) S):=by
       have hmv:∀x,x∈ways↔x∈ZcR (Zad r) f l:=fun x=>by rw[HRS.out];exact hw2 x
       have hne:ways≠[]:=fun e=>by
        obtain⟨x,hx⟩:=List.exists_mem_of_ne_nil _ HZ.out
        have:=(hw2 x).2 hx
        rw[e] at this
        cases this
       have zw:=EWR.out.size
       have zx:=EX.out.size
       have h3:w3.heap.size≤wr.heap.size:=HE.out.size
       refine⟨C9,ts++[⟨ZaC (Zad r) l.atom.terms,ways⟩],pts++[pt],tl,S,?_,fun b hb=>?_,?_,((TR.out.ext EX.out).mv mv9).snoc hpl (by omega) hd9 hst9 hc9,by simp[hpl],by simp;omega,fun t ht=>?_,?_,(TL.out.ext EX.out).mv mv9,SM.out.pos HXK.out HK1.out⟩
       ·rw[ZlK,←hpl]
        exact m9
       ·rcases mv9.2 b hb with q|q
        ·exact CC.out b q
        ·have:=HPM.out;omega
       ·exact Zaw (Zaa HE.out EX.out) mv9.1 (fun b hb q=>by have:=CC.out b q;have:=HPM.out;omega)
       ·rcases List.mem_append.1 ht with q|q
        ·exact HOK.out t q
        ·rw[List.mem_singleton.1 q]
         refine⟨⟨Zeu _ _,fun v hv=>?_,hw1,hne⟩,HNL.out.2,?_⟩
         ·have:=(ZbT.1 hv).1
          rw[HN.out] at this
          exact this
         ·have:=ROK.out.few
          show ways.length≤_
          omega
       ·exact TO.out.one HXK.out HK1.out (by rw[HF.out,HRS.out];exact HZ.out) (fun e=>hm0 (by rw[←HM.out];show (ZaC (Zad r) l.atom.terms).length=0;rw[show ZaC (Zad r) l.atom.terms=[] from e];rfl)) ⟨rfl,fun x=>by rw[HF.out];exact hmv x⟩
      clear m9 mv9 hw1 hw2 hw3 hs9 hst9 hc9 hd9
      go_roundw
      case rel=>
       obtain⟨C1,ts1,pts1,tl1,S1,r1,r2,r3,r4,r5,r6,r7,r8,r9,r10⟩:=REL.out
       exact⟨k+1,by omega,by go_num,C1,ts1,pts1,tl1,S1,r1,r2,r3,r4,r5,r6,r7,r8,r9,r10⟩
      case measure=>simp[intOf];omega
  ·obtain rfl:k=nb:=by omega
   have hge:¬(k:Int)<(k:Int):=by omega
   have hfull:k=r.body.length:=by have:=HLB.out;omega
   go_wp2
   go_returns
   have TO2:=TO.out
   have SM2:=SM.out
   rw[hfull] at TO2 SM2
   refine⟨Zaa EW3.out HE.out,.inr ⟨pm,ts,pts,S,rfl,?_,TO2,by rw[HN.out];exact SM2⟩⟩
   rw[HN.out]
   refine ZoC MB.out TL.out SM2.pre (by have:=SM.out.len;omega) TR.out hpl HVL.out (by omega) HOK.out (fun v hv=>?_)
   have hg:=zmg (Zoq (xs:=Zad r) (i:=v) (by rw[HN.out];exact hv))
   obtain⟨l,hl1,hl0,hl2⟩:=(Zg8 r _).1 hg
   obtain⟨i,hi⟩:=List.mem_iff_getElem?.1 hl1
   have hvm:v∈ZaC (Zad r) l.atom.terms:=ZbT.2 ⟨by rw[HN.out];exact hv,hl2⟩
   obtain⟨t,ht,hti,_⟩:=(TO2.has i l (zgs hi).1 hi hl0).2 (List.ne_nil_of_mem hvm)
   exact⟨t,ht,by rw[hti];exact hvm⟩
open K (ZaG Zda ZaQ)
structure Zee (r:ZaQ)(fs:Nat→ZaT)(x:List ByteArray):Prop where
 len:x.length=(Zad r).length
 pos:∀(i:Nat) (l:K.Lit),r.body[i]? =some l→l.kind=1→∃q∈Zan (fs i) l.atom.pred,Zec (Zad r) l.atom.terms q ((ZaC (Zad r) l.atom.terms).map (gt x))
 neg:∀(i:Nat) (l:K.Lit),r.body[i]? =some l→l.kind=2→∀q∈Zan (fs i) l.atom.pred,¬Zec (Zad r) l.atom.terms q ((ZaC (Zad r) l.atom.terms).map (gt x))
 cmp:∀(i:Nat) (l:K.Lit),r.body[i]? =some l→l.kind=3→ZkB l.op (Zco x (Zcy (Zad r) l.left.kind l.left.text) l.left.text) (Zco x (Zcy (Zad r) l.right.kind l.right.text) l.right.text)=true
theorem Zhe {r:ZaQ}(h:Zap r=0){l:K.Lit}(hl:l∈r.body):l.kind=1∨l.kind=2∨l.kind=3:=by
 have:=Zdx h hl
 unfold Zbf at this
 split at this
 ·omega
 ·split at this
  ·omega
  ·cases this
theorem ZgG {r:ZaQ}(h:Zap r=0){l:K.Lit}(hl:l∈r.body)(hk:l.kind=1∨l.kind=2):(ZaC (Zad r) l.atom.terms).length≤64:=by
 have:=Zdx h hl
 unfold Zbf at this
 rw[if_pos hk,Bool.and_eq_true] at this
 have h2:=Zfn (ZaI r) l.atom.terms
 have h3:=of_decide_eq_true this.1
 omega
theorem ZmT {r:ZaQ}{fs:Nat→ZaT}(hf:∀i,i<r.body.length→Zfp (fs i))(hc:Zap r=0)(h:∃(i:Nat) (l:K.Lit),r.body[i]? =some l∧l.kind=1∧ZcR (Zad r) (fs i) l=[])(x:List ByteArray):¬Zee r fs x:=by
 intro hb
 obtain⟨i,l,hl,hk,e⟩:=h
 obtain⟨q,h1,h2⟩:=hb.pos i l hl hk
 have hi:=(zgs hl).1
 have:=(Zed (hf i hi) (Zad r) l (ZgG hc (zmg hl) (.inl hk)) _).2 ⟨q,h1,h2⟩
 rw[e] at this
 cases this
theorem ZjH {r:ZaQ}{fs:Nat→ZaT}(hf:∀i,i<r.body.length→Zfp (fs i))(hc:Zap r=0){ts:List JT}{S:List Zhc}(ht:ZdQ (Zad r) r.body fs r.body.length ts)(hS:ZeD (Zad r) (Zad r).length r.body fs r.body.length S)(hok:∀t∈ts,t.Ok (Zad r).length)(hall:∀v,v<(Zad r).length→∃t∈ts,v∈t.vars)(x:List ByteArray):x∈Zcv ts (ZoA S) (Zad r).length 0 []↔Zee r fs x:=by
 rw[Zjd hok hall x (Zad r).length 0 [] (by omega) rfl (Znr.zero hok [])]
 have hsem:(∀u,0≤u→u≤(Zad r).length→ZoA S u (x.take u)=true)↔∀(i:Nat) (l:K.Lit),i<r.body.length→r.body[i]? =some l→l.kind≠1→(Zb1 (Zad r) (fs i) l).2 x=true:=(Zqo hS.pre x).trans (hS.all x)
 have low:∀{i:Nat} {l:K.Lit},r.body[i]? =some l→i<r.body.length:=fun h=>(zgs h).1
 have miss:∀(i:Nat) (l:K.Lit),r.body[i]? =some l→l.kind=2→((Zb1 (Zad r) (fs i) l).2 x=true↔∀q∈Zan (fs i) l.atom.pred,¬Zec (Zad r) l.atom.terms q ((ZaC (Zad r) l.atom.terms).map (gt x))):=fun i l hl hk=>by
  have h64:=ZgG hc (zmg hl) (.inr hk)
  have ok:=Zg7 (Zad r) l.atom.terms (Zan (fs i) l.atom.pred) h64
  unfold Zb1
  rw[if_pos hk]
  show (!ZaX (ZcR (Zad r) (fs i) l) _)=true↔_
  rw[Bool.not_eq_true',Bool.eq_false_iff,ne_eq,Zdu ok.up,Zed (hf i (low hl)) (Zad r) l h64]
  exact⟨fun q a b c=>q ⟨a,b,c⟩,fun q ⟨a,b,c⟩=>q a b c⟩
 constructor
 ·rintro⟨h1,_,h3,h4⟩
  have h3:=hsem.1 h3
  refine⟨h1,fun i l hl hk=>?_,fun i l hl hk=>(miss i l hl hk).1 (h3 i l (low hl) hl (by omega)),fun i l hl hk=>?_⟩
  ·have h64:=ZgG hc (zmg hl) (.inl hk)
   obtain⟨hne,hex⟩:=ht.has i l (low hl) hl hk
   by_cases hv:ZaC (Zad r) l.atom.terms=[]
   ·obtain⟨y,hy⟩:∃y,y∈ZcR (Zad r) (fs i) l:=by
     cases hq:ZcR (Zad r) (fs i) l with
     |nil=>exact absurd hq hne
     |cons y ys=>exact⟨y,by simp⟩
    obtain⟨q,q1,q2,q3,q4⟩:=(Zed (hf i (low hl)) (Zad r) l h64 y).1 hy
    refine⟨q,q1,q2,q3,?_⟩
    rw[hv]
    rfl
   ·obtain⟨t,ht1,ht2,ht3⟩:=hex hv
    have:=(ht3 _).1 (h4 t ht1)
    rw[ht2] at this
    exact(Zed (hf i (low hl)) (Zad r) l h64 _).1 this
  ·have:=h3 i l (low hl) hl (by omega)
   unfold Zb1 at this
   rw[if_neg (by omega)] at this
   exact this
 ·intro hb
  refine⟨hb.len,rfl,hsem.2 fun i l hi hl hk=>?_,fun t ht1=>?_⟩
  ·rcases Zhe hc (zmg hl) with k|k|k
   ·exact absurd k hk
   ·exact(miss i l hl k).2 (hb.neg i l hl k)
   ·unfold Zb1
    rw[if_neg (by omega)]
    exact hb.cmp i l hl k
  ·obtain⟨_,i,l,hi,hl,hk,e1,e2⟩:=ht.fro t ht1
   rw[e2,e1]
   exact(Zed (hf i hi) (Zad r) l (ZgG hc (zmg hl) (.inl hk)) _).2 (hb.pos i l hl hk)
theorem ZkL {r:ZaQ}(h:Zap r=0){l:K.Lit}(hl:l∈r.body):(l.kind=1∨l.kind=2→Zbt l.atom.terms=true)∧(l.kind=3→Zbt [l.left,l.right]=true):=by
 have:=ZfX h hl
 unfold Zbf at this
 constructor
 ·intro hk
  rw[if_pos hk] at this
  simp only[Bool.and_eq_true] at this
  exact this.2
 ·intro hk
  rw[if_neg (by omega),if_pos hk] at this
  simp only[Bool.and_eq_true] at this
  exact this.2
theorem ZoE {r:ZaQ}(h:Zap r=0){l:K.Lit}(hl:l∈r.body)(hk:l.kind=2):∀t∈l.atom.terms,Zbz (Zad r) t true=true:=by
 unfold Zap at h
 split at h
 ·cases h
 ·split at h
  ·cases h
  ·split at h
   ·cases h
   ·split at h
    ·cases h
    ·rename_i h4
     intro t ht
     by_cases q:Zbz (Zad r) t true=true
     ·exact q
     ·refine absurd (List.any_eq_true.2 ⟨l,hl,?_⟩) h4
      unfold Zcr
      rw[Bool.or_eq_true]
      refine .inr (List.any_eq_true.2 ⟨t,ht,?_⟩)
      unfold ZcZ
      simp[hk,q]
theorem Zf7 {r:ZaQ}(h:Zap r=0){l:K.Lit}(hl:l∈r.body)(hk:l.kind=1∨l.kind=2):∀t∈l.atom.terms,t.kind=1→t.text∈Zad r:=by
 intro t ht k1
 rcases hk with hk|hk
 ·rw[Zg8]
  exact⟨l,hl,hk,by rw[ZkK k1];exact ht⟩
 ·have:=ZoE h hl hk t ht
  unfold Zbz at this
  rw[if_neg (by omega),if_neg (by omega)] at this
  exact of_decide_eq_true this
theorem ZoF {r:ZaQ}{dl:List Za7}{f:ZaT}(hf:∀k,Zan f k=ZaW dl k)(h:Zap r=0){l:K.Lit}(hl:l∈r.body)(hk:l.kind=1∨l.kind=2){x:List ByteArray}(hx:x.length=(Zad r).length):(∃q∈Zdj dl l.atom,∀p∈l.atom.terms.zip q,OkP (Zad r) x p)↔∃q∈Zan f l.atom.pred,Zec (Zad r) l.atom.terms q ((ZaC (Zad r) l.atom.terms).map (gt x)):=by
 have hv:=Zf7 h hl hk
 constructor
 ·rintro⟨q,hq,ho⟩
  refine⟨q,by rw[hf];exact(List.mem_filter.1 hq).1,?_⟩
  rw[ZcY (ZaI r) hv]
  exact(Zox (ZaI r) hx.symm hv q (ZcJ q hq)).1 ho
 ·rintro⟨q,hq,ho⟩
  rw[ZcY (ZaI r) hv] at ho
  rw[hf] at hq
  exact⟨q,List.mem_filter.2 ⟨hq,by simp[ho.1]⟩,(Zox (ZaI r) hx.symm hv q ho.1).2 ho⟩
theorem ZoG {r:ZaQ}{dl:List Za7}{f:ZaT}(hf:∀k,Zan f k=ZaW dl k)(h:Zap r=0){l:K.Lit}(hl:l∈r.body)(hk:l.kind=2){x:List ByteArray}(hx:x.length=(Zad r).length):Zct l dl (Zad r) x=true↔∀q∈Zan f l.atom.pred,¬Zec (Zad r) l.atom.terms q ((ZaC (Zad r) l.atom.terms).map (gt x)):=by
 have hv:=Zf7 h hl (.inr hk)
 unfold Zct
 rw[if_pos hk,List.all_eq_true]
 constructor
 ·intro hh q hq ho
  rw[ZcY (ZaI r) hv] at ho
  rw[hf] at hq
  have:=hh q (List.mem_filter.2 ⟨hq,by simp[ho.1]⟩)
  have h2:=(Zfs (ZaI r) hx.symm hv q ho.1).2 ho
  rw[Option.isNone_iff_eq_none] at this
  rw[this] at h2
  cases h2
 ·intro hh q hq
  by_cases hs:(Zbh l.atom.terms q (Zad r) x).isSome=true
  ·refine absurd ?_ (hh q (by rw[hf];exact(List.mem_filter.1 hq).1))
   rw[ZcY (ZaI r) hv]
   exact(Zfs (ZaI r) hx.symm hv q (ZcJ q hq)).1 hs
  ·simpa using hs
theorem ZoH {names x:List ByteArray}(hn:names.Nodup)(hl:names.length=x.length){t:ZaG}(ho:ZpV t=false)(hs:Zbz names t false=true):ZcI names x t=Zco x (Zcy names t.kind t.text) t.text:=by
 unfold ZpV at ho
 simp only[Bool.or_eq_false_iff,decide_eq_false_iff_not] at ho
 unfold ZcI Zco Zcy
 by_cases k3:t.kind=3
 ·have k1:¬t.kind=1:=by omega
  have hneg:(-1:Int)<0:=by decide
  rw[if_pos k3,if_neg k1,if_pos hneg]
 ·rw[if_neg k3]
  by_cases k1:t.kind=1
  ·unfold Zbz at hs
   have k2:¬t.kind=2:=by omega
   have k34:¬(t.kind=3∨t.kind=4):=by omega
   rw[if_neg k2,if_neg k34] at hs
   have hm:=of_decide_eq_true hs
   have h0:=(ZeM names t.text).2 hm
   have h1:¬Zgu names t.text<0:=by omega
   rw[if_pos k1,if_neg h1,Zfq hn hl hm]
   rfl
  ·unfold Zbz at hs
   have k2:t.kind=2:=by omega
   rw[if_pos k2] at hs
   cases hs
theorem ZoI {r:ZaQ}{dl:List Za7}(h:Zap r=0){l:K.Lit}(hl:l∈r.body)(hk:l.kind=3){x:List ByteArray}(hx:x.length=(Zad r).length):Zct l dl (Zad r) x=ZkB l.op (Zco x (Zcy (Zad r) l.left.kind l.left.text) l.left.text) (Zco x (Zcy (Zad r) l.right.kind l.right.text) l.right.text):=by
 have hsh:=(ZkL h hl).2 hk
 unfold Zbt at hsh
 simp only[List.any_cons,List.any_nil,Bool.or_false,Bool.not_eq_true',Bool.or_eq_false_iff] at hsh
 obtain⟨s1,s2⟩:=ZjG h hl hk
 unfold Zct
 rw[if_neg (by omega),ZoH (ZaI r) hx.symm hsh.1 s1,ZoH (ZaI r) hx.symm hsh.2 s2]
theorem ZoJ {r:ZaQ}{dl:List Za7}{f:ZaT}(hf:∀k,Zan f k=ZaW dl k)(h:Zap r=0)(x:List ByteArray):x∈ZbS r dl↔Zee r (fun _=>f) x:=by
 rw[ZgD]
 constructor
 ·rintro⟨h1,h2,h3⟩
  refine⟨h1,fun i l hl hk=>?_,fun i l hl hk=>?_,fun i l hl hk=>?_⟩
  ·exact(ZoF hf h (zmg hl) (.inl hk) h1).1 (h2 l (zmg hl) hk)
  ·exact(ZoG hf h (zmg hl) hk h1).1 (h3 l (zmg hl) (by omega))
  ·rw[←ZoI (dl:=dl) h (zmg hl) hk h1]
   exact h3 l (zmg hl) (by omega)
 ·intro hb
  refine⟨hb.len,fun l hl hk=>?_,fun l hl hk=>?_⟩
  ·obtain⟨i,hi⟩:=List.mem_iff_getElem?.1 hl
   exact(ZoF hf h hl (.inl hk) hb.len).2 (hb.pos i l hi hk)
  ·obtain⟨i,hi⟩:=List.mem_iff_getElem?.1 hl
   rcases Zhe h hl with k|k|k
   ·exact absurd k hk
   ·exact(ZoG hf h hl k hb.len).2 (hb.neg i l hi k)
   ·rw[ZoI h hl k hb.len]
    exact hb.cmp i l hi k
