/- The walk of slices.Equal at texts. -/
import Derived.Test.YtjfbjjmiobgjfaaGreatG4
import Derived.Shelf.SlSortCmp.NoneTotal
set_option maxRecDepth 100000
set_option maxHeartbeats 8000000
namespace Go.Proofs.YtjfbjjmiobgjfaaGreat
open ChangeShapes WideShapes ChangeAt RowKit
theorem Zs8 (xs ys:List ByteArray)(aa:Option Addr)(n cap:Nat)(ab:Option Addr)(m cb:Nat)(w:World)(ha:Zai w aa n xs)(hb:Zai w ab m ys):
  Calls Tryz.prog 183 #[.slice aa n cap,.slice ab m cb] w fun e w'=>e=.returned (.bool (decide (xs=ys)))∧∃q,w'=w.drewN q:=by
 have HA:=zh ha
 have HB:=zh hb
 have HL:=zh ha.2.1
 have HM:=zh hb.2.1
 have hn:=ha.1
 clear ha hb
 have hn2:n≤9223372036854775807:=hn
 clear hn
 obtain⟨b,eb⟩:∃b,decide (n=m)=b:=⟨_,rfl⟩
 have EB:=zh eb
 cases b with
 |false=>
  have hne:n≠m:=by simpa using eb
  go_enter Tryz.func183,Tryz.ntmps183
  go_wp2
  go_returns
  refine⟨ZaS ?_,0,rfl⟩
  symm
  simp only[decide_eq_false_iff_not]
  rintro rfl
  exact hne (HL.out.symm.trans HM.out)
 |true=>
  obtain rfl:n=m:=by simpa using eb
  clear eb
  go_enter Tryz.func183,Tryz.ntmps183
  go_wp2
  go_loopw [13] (fun i wj=>∃k,k≤n∧i=.int .i64 (k:Int)∧(∃q,wj=w.drewN q)∧xs.take k=ys.take k) (fun i _=>n-(intOf i).toNat)
  case atStart=>exact⟨0,by omega,rfl,⟨0,rfl⟩,rfl⟩
  case round=>
   obtain⟨k,hk,rfl,⟨q0,hq0⟩,hq⟩:=hrel
   have hw:Ext w wr:=by rw[hq0];exact Zae zbr _
   have Q0:=zh hq0
   clear hq0
   have HQ:=zh hq
   clear hq
   by_cases hlt:k<n
   ·obtain⟨x,b1,o1,hx,rfl,h1⟩:=(HA.out.keep hw).2.at hlt
    obtain⟨y,b2,o2,hy,rfl,h2⟩:=(HB.out.keep hw).2.at hlt
    have HX:=zh hx
    have HY:=zh hy
    have g1:wr.cell? ⟨b1,o1+k,none⟩=some (.string x):=by simpa [Zdg] using h1
    have g2:wr.cell? ⟨b2,o2+k,none⟩=some (.string y):=by simpa [Zdg] using h2
    clear hx hy h1 h2
    obtain⟨q,eq⟩:∃b,(x.toList==y.toList)=b:=⟨_,rfl⟩
    have EQ:=zh ((Zbr x y).symm.trans eq)
    cases q with
    |false=>
     go_wp2
     go_quiet (fail)
     go_wp2
     go_ret
     refine⟨ZaS ?_,_,by rw[Q0.out,World.drewN_drewN]⟩
     symm
     simp only[decide_eq_false_iff_not]
     rintro rfl
     have e:=HX.out.symm.trans HY.out
     cases e
     have:=EQ.out
     simp at this
    |true=>
     go_wp2
     go_quiet (fail)
     go_wp2
     go_roundw
     case rel=>exact⟨k+1,by omega,by go_num,⟨_,by rw[Q0.out,World.drewN_drewN]⟩,Zi5 HX.out HY.out HQ.out (by simpa using EQ.out)⟩
     case measure=>simp[intOf];omega
   ·go_wp2
    go_ret
    refine⟨ZaS ?_,_,Q0.out⟩
    symm
    have h:=HQ.out
    rw[List.take_of_length_le (by have:=HL.out;omega),List.take_of_length_le (by have:=HM.out;omega)] at h
    simpa using h
theorem Zuw (xs ys:List ByteArray)(aa:Option Addr)(n cap:Nat)(ab:Option Addr)(m cb:Nat)(w:World)(ha:Zai w aa n xs)(hb:Zai w ab m ys):
  Calls Tryz.prog 182 #[.slice aa n cap,.slice ab m cb] w fun e w'=>e=.returned (.bool (decide (xs=ys)))∧∃q,w'=w.drewN q:=by
 have C:=zh (Zs8 xs ys aa n cap ab m cb w ha hb)
 clear ha hb
 generalize decide (xs=ys)=b at C ⊢
 go_enter Tryz.func182,Tryz.ntmps182
 go_wp2_with (go_at_call 183;(with_reducible refine C.out.mono ?_);rintro e w1 ⟨rfl,q,hq⟩;obtain rfl:=hq.symm)
 go_returns
 exact⟨rfl,q,rfl⟩
theorem Zux (xs ys:List ByteArray)(aa:Option Addr)(n cap:Nat)(ab:Option Addr)(m cb:Nat)(w:World)(ha:Zai w aa n xs)(hb:Zai w ab m ys):
  Calls Tryz.prog 180 #[.slice aa n cap,.slice ab m cb] w fun e w'=>e=.returned (.int .i64 (Zaj xs ys))∧w'=w:=by
 have C:=zh (ZhJ xs ys aa n cap ab m cb w ha hb)
 clear ha hb
 generalize Zaj xs ys=b at C ⊢
 go_enter Tryz.func180,Tryz.ntmps180
 go_wp2_with (go_at_call 100;(with_reducible refine C.out.mono ?_);rintro e w1 ⟨rfl,hw1⟩;obtain rfl:=hw1.symm)
 go_returns
 exact⟨rfl,rfl⟩
def Zph (ws:List (List ByteArray)):Prop:=ws.Pairwise fun x y=>¬Zaj y x<0
def Zej (l:List (List ByteArray)):List (List ByteArray):=l.foldl (fun acc x=>if acc.getLast? =some x then acc else acc++[x]) []
theorem ZfD (l:List (List ByteArray))(x:List ByteArray):Zej (l++[x])=if (Zej l).getLast? =some x then Zej l else Zej l++[x]:=by
 unfold Zej
 rw[List.foldl_append]
 rfl
theorem ZgI {α:Type}{P:List α→Prop}(h0:P [])(h1:∀l x,P l→P (l++[x]))(l:List α):P l:=by
 have:∀n (l:List α),l.length=n→P l:=by
  intro n
  induction n with
  |zero=>intro l hl;rw[List.eq_nil_of_length_eq_zero hl];exact h0
  |succ n ih=>
   intro l hl
   have hne:l≠[]:=by intro e;rw[e] at hl;simp at hl
   rw[←List.dropLast_concat_getLast hne]
   exact h1 _ _ (ih _ (by rw[List.length_dropLast];omega))
 exact this _ l rfl
theorem Zpi (l:List (List ByteArray)):(Zej l).getLast? =l.getLast?:=by
 refine ZgI (P:=fun l=>(Zej l).getLast? =l.getLast?) rfl (fun l x _=>?_) l
 rw[ZfD]
 split
 ·rename_i h
  rw[h]
  simp
 ·simp
theorem ZqT (l:List (List ByteArray)):(Zej l).length≤l.length:=by
 refine ZgI (P:=fun l=>(Zej l).length≤l.length) (Nat.le_refl _) (fun l x ih=>?_) l
 rw[ZfD]
 split <;> simp <;> omega
theorem Zpj (l:List (List ByteArray)):Zph l→Zbg (Zej l)∧∀x,x∈Zej l↔x∈l:=by
 refine ZgI (P:=fun l=>Zph l→Zbg (Zej l)∧∀x,x∈Zej l↔x∈l) (fun _=>⟨List.Pairwise.nil,fun _=>Iff.rfl⟩) (fun l x ih hs=>?_) l
 obtain⟨s1,_,s2⟩:=List.pairwise_append.1 hs
 obtain⟨r1,r2⟩:=ih s1
 have hx:∀y∈l,¬Zaj x y<0:=fun y hy=>s2 y hy x (List.mem_singleton.2 rfl)
 rw[ZfD]
 split
 ·rename_i h
  refine⟨r1,fun y=>?_⟩
  rw[r2,List.mem_append,List.mem_singleton]
  refine⟨.inl,?_⟩
  rintro (h1|rfl)
  ·exact h1
  ·exact(r2 y).1 (List.mem_of_getLast? h)
 ·rename_i h
  refine⟨List.pairwise_append.2 ⟨r1,List.pairwise_singleton _ _,fun y hy z hz=>?_⟩,fun y=>by rw[List.mem_append,List.mem_append,r2]⟩
  rw[List.mem_singleton] at hz
  subst hz
  have hge:=hx y ((r2 y).1 hy)
  have hsw:=Zcg y z
  by_cases h0:Zaj y z=0
  ·exfalso
   have e:=(ZaH y z).1 h0
   subst e
   have hne:Zej l≠[]:=fun e=>by rw[e] at hy;cases hy
   have hl:=List.getLast?_eq_some_getLast hne
   have hmem:=List.getLast_mem hne
   have hxl:=hx _ ((r2 _).1 hmem)
   rw[←List.dropLast_concat_getLast hne] at hy r1
   rcases List.mem_append.1 hy with h1|h1
   ·exact hxl ((List.pairwise_append.1 r1).2.2 y h1 _ (List.mem_singleton.2 rfl))
   ·rw[List.mem_singleton] at h1
    rw[hl,←h1] at h
    exact h rfl
  ·omega
theorem Zia:∀{l m:List (List ByteArray)},Zbg l→Zbg m→(∀x,x∈l↔x∈m)→l=m
 |[],[],_,_,_=>rfl
 |[],y::m,_,_,h=>by have:=(h y).2 (List.mem_cons_self ..);cases this
 |x::l,[],_,_,h=>by have:=(h x).1 (List.mem_cons_self ..);cases this
 |x::l,y::m,hl,hm,h=>by
  obtain⟨l1,l2⟩:=List.pairwise_cons.1 hl
  obtain⟨m1,m2⟩:=List.pairwise_cons.1 hm
  have irr:∀z:List ByteArray,¬Zaj z z<0:=fun z=>by rw[(ZaH z z).2 rfl];omega
  have hxy:x=y:=by
   rcases List.mem_cons.1 ((h x).1 (List.mem_cons_self ..)) with e|e
   ·exact e
   ·rcases List.mem_cons.1 ((h y).2 (List.mem_cons_self ..)) with e2|e2
    ·exact e2.symm
    ·exact absurd (ZbB _ _ _ (m1 x e) (l1 y e2)) (irr y)
  subst hxy
  rw[Zia l2 m2 fun z=>?_]
  have hz:=h z
  rw[List.mem_cons,List.mem_cons] at hz
  constructor
  ·intro h1
   rcases hz.1 (.inr h1) with e|e
   ·subst e
    exact absurd (l1 z h1) (irr z)
   ·exact e
  ·intro h1
   rcases hz.2 (.inr h1) with e|e
   ·subst e
    exact absurd (m1 z h1) (irr z)
   ·exact e
theorem Zgb {lo lo2 n:Nat}{w w':World}{us:List Value}{v vB:Value}{m:Nat}{xs:List Value}(h:w.ownsRow lo2 9 1 v m xs)(hown:w.ownsRow lo 54 1 vB n us)(hb:Zah (fun b=>vB.ownBlock=some b) w w'):w'.ownsRow lo2 9 1 v m xs:=hb.own h fun b hb1 hb2=>by
 rcases ZaK h hown (by decide) with h1|h1
 ·rw[h1] at hb1
  cases hb1
 ·exact h1 (hb1.trans hb2.symm)
theorem Zax.buts {lo lo2 n:Nat}{w w':World}{us vs:List Value}{vB:Value}{rs:List (List ByteArray)}(h:Zax lo2 w vs rs)(hown:w.ownsRow lo 54 1 vB n us)(hb:Zah (fun b=>vB.ownBlock=some b) w w'):Zax lo2 w' vs rs:=⟨h.1,fun i r v h1 h2=>Zgb (h.2 i r v h1 h2) hown hb⟩
theorem Zah.drewN {S:Nat→Prop}{w x:World}(h:Zah S w x)(q:Nat):Zah S w (x.drewN q):=h.ext (Zae zbr _)
theorem Zj0 {w:World}{base n size:Nat}{e:TypeId}{v:Value}{xs:List Value}(h:w.ownsRow base e size v n xs)(q:Nat):(w.drewN q).ownsRow base e size v n xs:=Zar h (Zae zbr _)
structure ZbU (lo g n c:Nat)(xs:List Value)(qs:List (List ByteArray))(w:World):Prop where
 own:w.ownsRow lo 54 1 (.slice (some ⟨g,0,none⟩) n c) n xs
 rows:Zax lo w xs qs
theorem ZbU.at {lo g n c:Nat}{xs:List Value}{qs:List (List ByteArray)}{w:World}(h:ZbU lo g n c xs qs w){k:Nat}(hk:k<n):∃(r:List ByteArray) (a:Option Addr) (c7:Nat),qs[k]? =some r∧xs[k]? =some (.slice a r.length c7)∧w.cell? ⟨g,k,none⟩=some (.slice a r.length c7)∧w.frozen? ⟨g,k,none⟩=false∧Zai w a r.length r∧w.ownsRow lo 9 1 (.slice a r.length c7) r.length (r.map Value.string):=by
 have hxl:xs.length=n:=by have:=h.own.1;omega
 have hql:=h.rows.1
 obtain⟨r,hr⟩:∃r,qs[k]? =some r:=⟨_,zge (by omega)⟩
 obtain⟨v,hv⟩:∃v,xs[k]? =some v:=⟨_,zge (by omega)⟩
 have ho:=h.rows.2 k r v hr hv
 obtain⟨a,c7,rfl,_⟩:=Zag ho
 have hc:=h.own.cells (g:=g) rfl k _ hv
 rw[Addr.add_lit,Nat.zero_add] at hc
 refine⟨r,a,c7,hr,hv,hc,?_,ZaL ho (Za4 ho).1,ho⟩
 rcases h.own.2 with⟨h1,_⟩|⟨g',c',cur,h1,_,hg,_⟩
 ·cases h1
 ·cases h1
  simp[World.frozen?,hg]
theorem ZbU.set {lo g n c:Nat}{xs:List Value}{qs:List (List ByteArray)}{w:World}(h:ZbU lo g n c xs qs w)(k:Nat){v:Value}{r:List ByteArray}(hr:w.ownsRow lo 9 1 v r.length (r.map Value.string)):ZbU lo g n c (xs.set k v) (qs.set k r) (w.setCell ⟨g,k,none⟩ v)∧Zah (fun b=>(Value.slice (some ⟨g,0,none⟩) n c).ownBlock=some b) w (w.setCell ⟨g,k,none⟩ v):=by
 obtain⟨h1,h2⟩:=h.own.stored k v
 have hb:Zah (fun b=>(Value.slice (some ⟨g,0,none⟩) n c).ownBlock=some b) w (w.setCell ⟨g,k,none⟩ v):=Zah.set (S:=fun b=>(Value.slice (some ⟨g,0,none⟩) n c).ownBlock=some b) (Zah.refl _ w) (.inl rfl) _ _
 refine⟨⟨h1,by rw[List.length_set,List.length_set];exact h.rows.1,fun i x u hx hu=>?_⟩,hb⟩
 by_cases e:k=i
 ·subst e
  have l1:=(zgs hx).1
  have l2:=(zgs hu).1
  rw[List.length_set] at l1 l2
  rw[List.getElem?_set_self l1] at hx
  rw[List.getElem?_set_self l2] at hu
  cases hx
  cases hu
  exact Zgb hr h.own hb
 ·rw[List.getElem?_set_ne e] at hx hu
  exact Zgb (h.rows.2 i x u hx hu) h.own hb
theorem ZbU.drewN {lo g n c:Nat}{xs:List Value}{qs:List (List ByteArray)}{w:World}(h:ZbU lo g n c xs qs w)(q:Nat):ZbU lo g n c xs qs (w.drewN q):=⟨Zj0 h.own q,h.rows.ext (Zae zbr _)⟩
theorem ZbU.cut {lo g n c:Nat}{xs:List Value}{qs:List (List ByteArray)}{w:World}(h:ZbU lo g n c xs qs w){k:Nat}(hk:k≤n):ZbU lo g k c (xs.take k) (qs.take k) w:=by
 obtain⟨h1,h2,h3⟩:=h
 refine⟨?_,by rw[List.length_take,List.length_take,h2],fun i r v hr hv=>?_⟩
 ·refine⟨by rw[List.length_take,h1.1];omega,?_⟩
  rcases h1.2 with⟨e,_⟩|⟨g',c',cur,e,hb,hg,hnc,hcm,hcs,ht⟩
  ·cases e
  ·cases e
   refine .inr ⟨g,c,cur,rfl,hb,hg,by omega,hcm,hcs,?_⟩
   rw[←ht,List.take_take]
   congr 1
   omega
 ·rw[List.getElem?_take] at hr hv
  split at hr
  ·rename_i hlt
   rw[if_pos hlt] at hv
   exact h3 i r v hr hv
  ·cases hr
theorem ZbU.behind {lo g k c:Nat}{qs:List (List ByteArray)}:∀(zs:List Value) (xs:List Value) (j:Nat) (w:World),k≤j→ZbU lo g k c xs qs w→ZbU lo g k c xs qs (w.setCells g j zs)∧Zah (fun b=>(Value.slice (some ⟨g,0,none⟩) k c).ownBlock=some b) w (w.setCells g j zs)
 |[],_,_,w,_,h=>⟨h,Zah.refl _ _⟩
 |z::zs,xs,j,w,hj,h=>by
  have hb:Zah (fun b=>(Value.slice (some ⟨g,0,none⟩) k c).ownBlock=some b) w (w.setCell ⟨g,j,none⟩ z):=Zah.set (S:=fun b=>(Value.slice (some ⟨g,0,none⟩) k c).ownBlock=some b) (Zah.refl _ w) (.inl rfl) _ _
  have h1:ZbU lo g k c xs qs (w.setCell ⟨g,j,none⟩ z):=by
   refine⟨?_,h.rows.buts h.own hb⟩
   have:=(h.own.stored j z).1
   rwa [List.set_eq_of_length_le (by have:=h.own.1;omega)] at this
  obtain⟨h2,h3⟩:=ZbU.behind zs xs (j+1) _ (by omega) h1
  exact⟨h2,hb.trans h3⟩
theorem ZqU (w:World):(zeroValue 54).run Tryz.prog w=.ok (.slice none 0 0) w:=by kernel_rfl
theorem Zs9 {k:Nat}(hk:k≤1000000):IntKind.i64.wrap (k:Int)=(k:Int):=by
 rw[IntKind.wrap_i64]
 omega
def ZcW (lo:Nat)(a:Option Addr)(n c:Nat)(ws:List (List ByteArray))(w:World)(e:Ending)(w':World):Prop:=∃us',e=.returned (.slice a (Zej ws).length c)∧w'.ownsRow lo 54 1 (.slice a (Zej ws).length c) (Zej ws).length us'∧Zax lo w' us' (Zej ws)∧Zah (fun b=>(Value.slice a n c).ownBlock=some b) w w'
theorem Zhq {ws:List (List ByteArray)}{k:Nat}{x y:List ByteArray}(hx:ws[k]? =some x)(hy:ws[k+1]? =some y):Zej (ws.take (k+2))=if x=y then Zej (ws.take (k+1)) else Zej (ws.take (k+1))++[y]:=by
 rw[ZaA hy,ZfD,Zpi,ZaA hx]
 simp
theorem Zpk (lo:Nat)(a:Option Addr)(n c:Nat)(us:List Value)(ws:List (List ByteArray))(w:World)(hown:w.ownsRow lo 54 1 (.slice a n c) n us)(hr:Zax lo w us ws)(hn:n≤1000000):
  Calls Tryz.prog 181 #[.slice a n c,.func (.func 182) #[] #[]] w (ZcW lo a n c ws w):=by
 have hul:us.length=n:=by have:=hown.1;omega
 have hwl:ws.length=n:=by rw[←hr.1,hul]
 by_cases h2:n<2
 ·have HE:Hid (ZcW lo a n c ws w (.returned (.slice a n c)) w):=by
   have e:Zej ws=ws:=by
    rcases ws with _|⟨x,ws⟩
    ·rfl
    ·have:ws=[]:=List.eq_nil_of_length_eq_zero (by simp at hwl;omega)
     subst this
     rfl
   show ZcW lo a n c ws w (.returned (.slice a n c)) w
   unfold ZcW
   rw[e,hwl]
   exact⟨us,rfl,hown,hr,Zah.refl _ _⟩
  have h2i:(n:Int)<2:=by omega
  clear hown hr hul hwl h2
  go_enter Tryz.func181,Tryz.ntmps181
  go_wp2
  go_returns
  exact HE.out
 ·have h2i:¬(n:Int)<2:=by omega
  obtain⟨g,c',e0,_⟩:=Za0 hown (by omega)
  cases e0
  have RR:ZbU lo g n c us ws w:=⟨hown,hr⟩
  have HR:=zh RR
  have HW:=zh hwl
  have hnc:n≤c:=(ZaF hown).1
  have hnm:n≤9223372036854775807:=by omega
  clear RR hown hr hul hwl
  go_enter Tryz.func181,Tryz.ntmps181
  go_wp2
  go_loopw [5] (fun v wj=>∃k:Nat,k+1≤n∧v=.int .i64 ((k:Int)+1)∧(∃q,wj=w.drewN q)∧Zej (ws.take (k+1))=ws.take (k+1)) (fun v _=>n-(intOf v).toNat)
  case atStart=>exact⟨0,by omega,rfl,⟨0,rfl⟩,by have:=HW.out;rcases ws with _|⟨x,ws⟩ <;> first|rfl|(simp at this;omega)⟩
  case round=>
   obtain⟨k,hk,rfl,⟨q0,hq0⟩,hq⟩:=hrel
   have HQ:=zh hq
   have HRw:Hid (ZbU lo g n c us ws wr):=by show ZbU _ _ _ _ _ _ _;rw[hq0];exact HR.out.drewN q0
   have Q0:=zh hq0
   clear hq hq0
   by_cases hlt:k+1<n
   ·obtain⟨x,ax,cx,hx,_,gx,_,sx,_⟩:=HRw.out.at (k:=k) (by omega)
    obtain⟨y,ay,cy,hy,_,gy,_,sy,_⟩:=HRw.out.at (k:=k+1) hlt
    have HX:=zh hx
    have HY:=zh hy
    have SX:=zh sx
    have SY:=zh sy
    obtain⟨t,ht⟩:∃t,decide (y=x)=t:=⟨_,rfl⟩
    have T:=zh ht
    clear hx hy sx sy ht
    have EQ:Hid (∀W:World,Ext wr W→Calls Tryz.prog 182 #[.slice ay y.length cy,.slice ax x.length cx] W fun e w'=>e=.returned (.bool t)∧∃q,w'=W.drewN q):=fun W hW=>by
     rw[←T.out]
     exact Zuw y x ay _ cy ax _ cx W (SY.out.keep hW) (SX.out.keep hW)
    have e1:(k:Int)+1-1=(k:Int):=by omega
    have e2:((k:Int)+1).toNat=k+1:=by omega
    have l1:(k:Int)+1<(n:Int):=by omega
    have l2:(k:Int)<(n:Int):=by omega
    have l3:(0:Int)≤(k:Int)+1:=by omega
    have l4:(0:Int)≤(k:Int):=by omega
    have e3:IntKind.i64.wrap (k:Int)=(k:Int):=Zs9 (by omega)
    have l5:(0:Int)≤(k:Int)+1-1:=by omega
    have l6:(k:Int)+1-1<(n:Int):=by omega
    have e4:((k:Int)+1-1).toNat=k:=by omega
    have hd:Ext wr wr.drew:=Zaf zbr
    cases t with
    |false=>
     have STEP:Hid (Zej (ws.take (k+1+1))=ws.take (k+1+1)):=by
      show _=_
      rw[Zhq HX.out HY.out,if_neg (by have:=T.out;simp at this;exact fun e=>this e.symm),HQ.out,ZaA HY.out]
     go_wp2
     go_region_held3 (fun w'=>w'.cell? ⟨g,k,none⟩=some (.slice ax x.length cx)∧w'.cell? ⟨g,k+1,none⟩=some (.slice ay y.length cy))
      (first|exact⟨gx,gy⟩|fail)
      (first|(go_at_call 182;(with_reducible refine(EQ.out _ hd).mono ?_);rintro e w2 ⟨rfl,q2,hq2⟩;obtain rfl:=hq2.symm)|fail)
     all_goals
      go_wp2
      go_roundw
      case rel=>exact⟨k+1,by omega,by go_num,⟨_,by rw[Q0.out,World.drewN_drewN]⟩,STEP.out⟩
      case measure=>simp[intOf];omega
    |true=>
     have PRE:Hid (Zej (ws.take (k+1+(0+1)))=ws.take (k+1)):=by
      show _=_
      rw[show k+1+(0+1)=k+2 by omega,Zhq HX.out HY.out,if_pos (by have:=T.out;simp at this;exact this.symm),HQ.out]
     go_wp2
     go_region_held3 (fun w'=>w'.cell? ⟨g,k,none⟩=some (.slice ax x.length cx)∧w'.cell? ⟨g,k+1,none⟩=some (.slice ay y.length cy))
      (first|exact⟨gx,gy⟩|fail)
      (first|(go_at_call 182;(with_reducible refine(EQ.out _ hd).mono ?_);rintro e w2 ⟨rfl,q2,hq2⟩;obtain rfl:=hq2.symm)|fail)
     all_goals
      have l7:(k:Int)+1≤(n:Int):=by omega
      have l8:(n:Int)≤(c:Int):=by omega
      have l9:¬(c=k+1):=by omega
      clear l5 l6 e4
      go_wp2
      refine Zba (fun W0 hW0=>?_)
      have HR0:Hid (ZbU lo g n c us ws W0):=by
       show ZbU _ _ _ _ _ _ _
       rw[hW0]
       exact HRw.out.drewN _
      have HB0:Hid (Zah (fun b=>(Value.slice (some ⟨g,0,none⟩) n c).ownBlock=some b) w W0):=by
       show Zah _ _ _
       rw[hW0,Q0.out]
       exact((Zah.refl _ w).drewN _).drewN _
      clear hW0 gx gy EQ hd
      go_loopw [5,7] (fun v5 v7 wj=>∃p t:Nat,k+1+t+1≤n∧p≤k+1+t∧v5=.int .i64 (p:Int)∧v7=.int .i64 ((t:Int)+1)∧∃xs qs,ZbU lo g n c xs qs wj∧qs.take p=Zej (ws.take (k+1+(t+1)))∧qs.drop p=ws.drop p∧Zah (fun b=>(Value.slice (some ⟨g,0,none⟩) n c).ownBlock=some b) w wj) (fun _ v7 _=>n-(intOf v7).toNat)
      case atStart=>exact⟨k+1,0,by omega,by omega,rfl,rfl,us,ws,HR0.out,PRE.out.symm,rfl,HB0.out⟩
      case round=>
       obtain⟨p,t,ht,hp,rfl,rfl,xs,qs,hrr,hq1,hq2,hbb⟩:=hrel
       have RR:=zh hrr
       have Q1:=zh hq1
       have Q2:=zh hq2
       have BB:=zh hbb
       clear hrr hq1 hq2 hbb
       have m1:IntKind.i64.wrap (t:Int)=(t:Int):=Zs9 (by omega)
       have m2:(0:Int)≤(t:Int)+1:=by omega
       have m3:((t:Int)+1).toNat=t+1:=by omega
       by_cases hlt2:k+1+(t+1)<n
       ·have m4:(t:Int)+1<((n-(k+1):Nat):Int):=by omega
        have m5:(t:Int)<((n-(k+1):Nat):Int):=by omega
        obtain⟨x',ax',cx',hx',_,gx',_,sx',_⟩:=RR.out.at (k:=k+1+t) (by omega)
        obtain⟨y',ay',cy',hy',hyv,gy',_,sy',oy'⟩:=RR.out.at (k:=k+1+(t+1)) hlt2
        have dr:∀j,p≤j→qs[j]? =ws[j]?:=fun j hj=>by
         have e:=congrArg (fun l:List (List ByteArray)=>l[j-p]?) Q2.out
         simp only[List.getElem?_drop] at e
         rwa [show p+(j-p)=j by omega] at e
        have HX':Hid (ws[k+1+t]? =some x'):=(dr _ (by omega)).symm.trans hx'
        have HY':Hid (ws[k+1+t+1]? =some y'):=(dr _ (by omega)).symm.trans hy'
        obtain⟨tt,htt⟩:∃tt,decide (y'=x')=tt:=⟨_,rfl⟩
        have T':=zh htt
        have SX':=zh sx'
        have SY':=zh sy'
        have OY':=zh oy'
        have EQ':Hid (∀W:World,Ext wr W→Calls Tryz.prog 182 #[.slice ay' y'.length cy',.slice ax' x'.length cx'] W fun e w'=>e=.returned (.bool tt)∧∃q,w'=W.drewN q):=fun W hW=>by
         rw[←T'.out]
         exact Zuw y' x' ay' _ cy' ax' _ cx' W (SY'.out.keep hW) (SX'.out.keep hW)
        have hd':Ext wr wr.drew:=Zaf zbr
        have CT:Hid (Zej (ws.take (k+1+(t+1+1)))=if x'=y' then Zej (ws.take (k+1+(t+1))) else Zej (ws.take (k+1+(t+1)))++[y']):=Zhq HX'.out HY'.out
        clear hx' hy' htt sx' sy' oy' dr hyv
        cases tt with
        |true=>
         go_wp2
         go_region_held3 (fun w'=>w'.cell? ⟨g,k+1+t,none⟩=some (.slice ax' x'.length cx')∧w'.cell? ⟨g,k+1+(t+1),none⟩=some (.slice ay' y'.length cy'))
          (first|exact⟨gx',gy'⟩|fail)
          (first|(go_at_call 182;(with_reducible refine(EQ'.out _ hd').mono ?_);rintro e w2 ⟨rfl,q2,hq2⟩;obtain rfl:=hq2.symm)|fail)
         all_goals
          go_wp2
          go_roundw
          case rel=>exact⟨p,t+1,by omega,by omega,rfl,by go_num,xs,qs,RR.out.drewN _,by rw[CT.out,if_pos (by have:=T'.out;simp at this;exact this.symm)];exact Q1.out,Q2.out,BB.out.drewN _⟩
          case measure=>simp[intOf];omega
        |false=>
         go_wp2
         go_region_held3 (fun w'=>w'.cell? ⟨g,k+1+t,none⟩=some (.slice ax' x'.length cx')∧w'.cell? ⟨g,k+1+(t+1),none⟩=some (.slice ay' y'.length cy'))
          (first|exact⟨gx',gy'⟩|fail)
          (first|(go_at_call 182;(with_reducible refine(EQ'.out _ hd').mono ?_);rintro e w2 ⟨rfl,q2,hq2⟩;obtain rfl:=hq2.symm)|fail)
         all_goals
          obtain⟨z,az,cz,hz,_,gz,fz,_,_⟩:=RR.out.at (k:=p) (by omega)
          clear hz
          have m6:(p:Int)<(n:Int):=by omega
          go_wp2
          go_roundw
          case rel=>
           obtain⟨s1,s2⟩:=(RR.out.drewN (1+q2)).set p (Zj0 OY'.out (1+q2))
           have hql:p<qs.length:=by
            have h1:=RR.out.rows.1
            have h2:=RR.out.own.1
            omega
           refine⟨p+1,t+1,by omega,by omega,by go_num,by go_num,_,_,s1,?_,?_,(BB.out.drewN _).trans s2⟩
           ·rw[CT.out,if_neg (by have:=T'.out;simp at this;exact fun e=>this e.symm),ZaA (List.getElem?_set_self hql),List.take_set_of_le (Nat.le_refl _),Q1.out]
           ·rw[List.drop_set_of_lt (Nat.lt_succ_self p)]
            have e:=congrArg (List.drop 1) Q2.out
            rwa [List.drop_drop,List.drop_drop] at e
          case measure=>simp[intOf];omega
       ·have m4:¬(t:Int)+1<((n-(k+1):Nat):Int):=by omega
        have HN:Hid (k+1+(t+1)=n):=by show _=_;omega
        have hcl:(Builtin.clear_ #[50] 0 #[.slice (some ⟨g,p,none⟩) (n-p) (c-p)]).run Tryz.prog wr=.ok (.tuple #[]) (wr.setCells g p (List.replicate (n-p) (.slice none 0 0))):=by
         refine Lib.run_clear_slice wr 50 54 0 (.slice none 0 0) Tryz.underlying50 ZqU rfl rfl g p (n-p) (c-p) (by omega) (fun j hj=>?_) (fun j hj=>?_)
         ·obtain⟨_,_,_,_,_,h1,_⟩:=RR.out.at (k:=p+j) (by omega)
          rw[h1]
          rfl
         ·obtain⟨_,_,_,_,_,_,h1,_⟩:=RR.out.at (k:=p+j) (by omega)
          exact h1
        have HF:Hid (ZcW lo (some ⟨g,0,none⟩) n c ws w (.returned (.slice (some ⟨g,0,none⟩) p c)) (wr.setCells g p (List.replicate (n-p) (.slice none 0 0)))):=by
         obtain⟨s1,s2⟩:=ZbU.behind (List.replicate (n-p) (.slice none 0 0)) _ p wr (Nat.le_refl _) (RR.out.cut (k:=p) (by omega))
         have hql:qs.length=n:=by
          have h1:=RR.out.rows.1
          have h2:=RR.out.own.1
          omega
         have e:qs.take p=Zej ws:=by
          rw[Q1.out,List.take_of_length_le (by have:=HW.out;have:=HN.out;omega)]
         have el:(Zej ws).length=p:=by rw[←e,List.length_take];omega
         unfold Hid ZcW
         rw[el,←e]
         exact⟨_,rfl,s1.own,s1.rows,BB.out.trans s2⟩
        have m6:(p:Int)≤(n:Int):=by omega
        have m7:(p:Int)≤(c:Int):=by omega
        have m8:¬c=p:=by omega
        go_wp2
        go_returns
        exact HF.out
   ·have HE:Hid (ZcW lo (some ⟨g,0,none⟩) n c ws w (.returned (.slice (some ⟨g,0,none⟩) n c)) wr):=by
     have e:Zej ws=ws:=by
      have:=HQ.out
      rwa [show k+1=n by omega,List.take_of_length_le (by have:=HW.out;omega)] at this
     unfold Hid ZcW
     rw[e,HW.out]
     exact⟨us,rfl,HRw.out.own,HRw.out.rows,by rw[Q0.out];exact(Zah.refl _ w).drewN _⟩
    have l1:¬(k:Int)+1<(n:Int):=by omega
    clear HQ
    go_wp2
    go_returns
    exact HE.out
theorem zcg {α:Type}{x:Option α}{a b:α}(h:x=some a)(k:a=b:=by kernel_rfl):x=some b:=h.trans (congrArg some k)
def Tryz.sortR_ren:Shelf.Ren:=⟨fun|6=>179|15=>148|14=>192|28=>176|29=>177|20=>195|21=>196|22=>197|23=>198|24=>199|25=>200|26=>201|27=>202|46=>205|47=>188|48=>189|49=>206|50=>207|57=>208|n=>n,fun|22=>50|24=>54|25=>96|3=>3|39=>130|0=>0|53=>182|55=>185|4=>4|46=>243|45=>242|50=>67|5=>5|9=>9|66=>256|70=>260|76=>264|77=>265|n=>n,fun|n=>n⟩
open Go.Proofs.Tryz in
theorem Tryz.sortR:SlLaysF.n6 prog Tryz.sortR_ren:={
 mixed:=by kernel_rfl,f6:=⟨f179.name,by decide,zcg func179⟩,f14:=⟨f192.name,by decide,zcg func192⟩,f15:=zcg func148,f20:=⟨f195.name,by decide,zcg func195⟩,f21:=⟨f196.name,by decide,zcg func196⟩,f22:=⟨f197.name,by decide,zcg func197⟩,f23:=⟨f198.name,by decide,zcg func198⟩,
 f24:=⟨f199.name,by decide,zcg func199⟩,f25:=⟨f200.name,by decide,zcg func200⟩,f26:=⟨f201.name,by decide,zcg func201⟩,f27:=⟨f202.name,by decide,zcg func202⟩,f28:=zcg func176,f29:=zcg func177,f46:=⟨f205.name,by decide,zcg func205⟩,f47:=zcg func188,
 f48:=zcg func189,f49:=⟨f206.name,by decide,zcg func206⟩,f50:=⟨f207.name,by decide,zcg func207⟩,f57:=⟨f208.name,by decide,zcg func208⟩,t0:=underlying0,a0:=isAgg0,z0:=sizeOf0,v0:=zeroValue0,
 t3:=underlying3,a3:=isAgg3,z3:=sizeOf3,v3:=zeroValue3,t4:=underlying4,a4:=isAgg4,z4:=sizeOf4,v4:=zeroValue4,
 t5:=underlying5,a5:=isAgg5,z5:=sizeOf5,v5:=zeroValue5,t9:=underlying9,a9:=isAgg9,z9:=sizeOf9,v9:=zeroValue9,
 t22:=underlying50,a22:=isAgg50,z22:=sizeOf50,v22:=zeroValue50,a24:=isAgg54,z24:=sizeOf54,t25:=underlying96,a25:=isAgg96,
 z25:=sizeOf96,v25:=zeroValue96,t39:=underlying130,a39:=isAgg130,z39:=sizeOf130,v39:=zeroValue130,t45:=underlying242,a45:=isAgg242,
 z45:=sizeOf242,v45:=zeroValue242,t46:=underlying243,a46:=isAgg243,z46:=sizeOf243,v46:=zeroValue243,t50:=underlying67,a50:=isAgg67,
 z50:=sizeOf67,v50:=zeroValue67,t53:=underlying182,a53:=isAgg182,z53:=sizeOf182,v53:=zeroValue182,t55:=underlying185,a55:=isAgg185,
 z55:=sizeOf185,v55:=zeroValue185,t66:=underlying256,a66:=isAgg256,z66:=sizeOf256,v66:=zeroValue256,t70:=underlying260,a70:=isAgg260,
 z70:=sizeOf260,v70:=zeroValue260,t76:=underlying264,a76:=isAgg264,z76:=sizeOf264,v76:=zeroValue264,t77:=underlying265,a77:=isAgg265,
 z77:=sizeOf265,v77:=zeroValue265}
theorem Zgc {α:Type}[Inhabited α]{w:World}{g:Nat}{cur:Array Value}{e:TypeId}(enc:α→Value)(d':Array α)(m:Nat)(os:Array Obj)(hg:w.heap[g]? =some (.cells cur e (0,0))):
  (sortWorld enc w g 0 m d' os).heap[g]? =some (.cells (Sort.putCells enc 0 d' cur) e (0,0))∧Zah (fun b=>b=g) w (sortWorld enc w g 0 m d' os):=by
 have hlt:=(zag hg).1
 refine⟨?_,rfl,rfl,rfl,?_,fun b hb hne=>?_⟩
 ·show ((w.heap.modify g (Sort.onCells (Sort.putCells enc 0 d')))++os)[g]? =_
  rw[Array.getElem?_append_left (by simpa using hlt),Array.getElem?_modify,if_pos rfl,hg]
  rfl
 ·show w.heap.size≤((w.heap.modify g (Sort.onCells (Sort.putCells enc 0 d')))++os).size
  simp
 ·show ((w.heap.modify g (Sort.onCells (Sort.putCells enc 0 d')))++os)[b]? =_
  rw[Array.getElem?_append_left (by simpa using hb),Array.getElem?_modify,if_neg (fun e=>hne e.symm)]
theorem ZfE {α:Type}[Inhabited α](enc:α→Value)(d:Array α)(cur:Array Value)(h:d.size≤cur.size):(Sort.putCells enc 0 d cur).toList.take d.size=d.toList.map enc:=by
 apply List.ext_getElem
 ·simp[Sort.putCells]
  omega
 ·intro i h1 h2
  have h3:i<d.size:=by simpa using h2
  simp[Sort.putCells,h3]
theorem ZdT {α:Type}{d:Array α}{n:Nat}(h:d.size=n):d.extract 0 n=d:=by
 rw[←h]
 exact Array.extract_size
theorem Zj1 {x y z:List ByteArray}(h1:¬Zaj x y<0)(h2:¬Zaj y z<0):¬Zaj x z<0:=by
 intro h
 have s1:=Zcg x y
 by_cases e:Zaj y x=0
 ·rw[←(ZaH y x).1 e] at h
  exact h2 h
 ·exact h2 (ZbB y x z (by omega) h)
def ZqV (lo:Nat)(a:Option Addr)(n c:Nat)(ws:List (List ByteArray))(w:World)(e:Ending)(w':World):Prop:=e=.returned (.tuple #[])∧∃us' ws',w'.ownsRow lo 54 1 (.slice a n c) n us'∧Zax lo w' us' ws'∧ws'.Perm ws∧Zph ws'∧Zah (fun b=>(Value.slice a n c).ownBlock=some b) w w'
theorem Zuy (lo:Nat)(a:Option Addr)(n c:Nat)(us:List Value)(ws:List (List ByteArray))(w:World)(hown:w.ownsRow lo 54 1 (.slice a n c) n us)(hr:Zax lo w us ws)(hn:n≤1000000):
  Calls Tryz.prog 179 #[.slice a n c,.func (.func 180) #[] #[]] w (ZqV lo a n c ws w):=by
 have hul:us.length=n:=by have:=hown.1;omega
 have hwl:ws.length=n:=by rw[←hr.1,hul]
 by_cases h0:n=0
 ·subst h0
  have hcon:=AnyF.slices_SortFunc_none (P:=Tryz.prog) {Tryz.sortR with} a c (.func (.func 180) #[] #[]) w
  refine Calls.mono hcon ?_
  rintro e w' ⟨rfl,rfl⟩
  have hw0:ws=[]:=List.eq_nil_of_length_eq_zero hwl
  subst hw0
  exact⟨rfl,us,[],hown,hr,List.Perm.refl _,List.Pairwise.nil,Zah.refl _ _⟩
 ·obtain⟨g,c',e0,_⟩:=Za0 hown (by omega)
  cases e0
  obtain⟨cur,hcur,hcs,hct⟩:∃cur:Array Value,w.heap[g]? =some (.cells cur 54 (0,0))∧n≤cur.size∧cur.toList.take n=us:=by
   rcases hown.2 with⟨h1,_⟩|⟨g',c',cur,h1,_,hg,hnc,_,hs,ht⟩
   ·cases h1
   ·cases h1
    exact⟨cur,hg,by omega,by rw[Nat.mul_one] at ht;exact ht⟩
  have:Inhabited {j:Nat // j<n}:=⟨⟨0,by omega⟩⟩
  obtain⟨enc,henc⟩:∃enc:{j:Nat // j<n}→Value,enc=fun x=>us[x.1]?.getD undef:=⟨_,rfl⟩
  obtain⟨f,hf⟩:∃f:{j:Nat // j<n}→List ByteArray,f=fun x=>ws[x.1]?.getD []:=⟨_,rfl⟩
  have hat:∀x:{j:Nat // j<n},us[x.1]? =some (enc x)∧ws[x.1]? =some (f x):=fun x=>by
   rw[henc,hf]
   simp only
   rw[zge (show x.1<us.length by rw[hul];exact x.2),zge (show x.1<ws.length by rw[hwl];exact x.2)]
   exact⟨rfl,rfl⟩
  have hrow:∀x,w.ownsRow lo 9 1 (enc x) (f x).length ((f x).map Value.string):=fun x=>hr.2 x.1 _ _ (hat x).2 (hat x).1
  obtain⟨d,hd⟩:∃d:Array {j:Nat // j<n},d=Array.ofFn fun i:Fin n=>⟨i.1,i.2⟩:=⟨_,rfl⟩
  have hds:d.size=n:=by rw[hd];simp
  have hdat:∀j (h:j<n),d[j]! =⟨j,h⟩:=fun j h=>by
   rw[getElem!_pos d j (by omega)]
   subst hd
   simp
  have hH:Sort.Holds enc w g 0 d:=fun j hj=>by
   rw[hds] at hj
   refine⟨?_,by simp[World.frozen?,hcur]⟩
   have:=hown.cells (g:=g) rfl j _ (hat ⟨j,hj⟩).1
   rw[Addr.add_lit] at this
   rw[hdat j hj]
   exact this
  have hO:Sort.SWO (ltOf fun x y=>Zaj (f x) (f y)):=by
   refine⟨fun x=>?_,fun x y z h1 h2=>?_,fun x y z h1 h2=>?_⟩
   ·simp[ltOf,(ZaH (f x) (f x)).2 rfl]
   ·simp only[ltOf,decide_eq_true_eq] at*
    exact ZbB _ _ _ h1 h2
   ·simp only[ltOf,decide_eq_false_iff_not] at*
    exact Zj1 h1 h2
  have h1c:∀x,(enc x).oneCell'=true:=fun x=>by
   obtain⟨_,_,e,_⟩:=Zag (hrow x)
   rw[e]
   rfl
  have hcmp:CmpReads Tryz.prog 180 #[] enc (fun x y=>Zaj (f x) (f y)) g 0 d.size w:=fun m os dk _ x y=>by
   have hb:=(Zgc enc dk m os hcur).2
   have hx:=Zgb (hrow x) hown (hb.mono fun b _ e=>by simp[Value.ownBlock,e])
   have hy:=Zgb (hrow y) hown (hb.mono fun b _ e=>by simp[Value.ownBlock,e])
   obtain⟨ax,cx,ex,_⟩:=Zag hx
   obtain⟨ay,cy,ey,_⟩:=Zag hy
   rw[ex] at hx ⊢
   rw[ey] at hy ⊢
   exact(Zux (f x) (f y) ax _ cx ay _ cy _ (ZaL hx (Za4 hx).1) (ZaL hy (Za4 hy).1)).mono fun e w' ⟨h1,h2⟩=>⟨h1,0,h2⟩
  have eg:∀args w,(callFunc 180 args).run Tryz.prog w=.ok (.enter 180 args) w:=enters_of Tryz.func180 (by kernel_rfl) rfl
  have hcon:=Any.slices_SortFunc Tryz.sortR enc h1c (fun x y=>Zaj (f x) (f y)) hO 180 #[] g 0 c d w eg hcmp.lays hH (zag hcur).1 (by omega)
  rw[hds] at hcon
  refine Calls.mono hcon ?_
  rintro e w' ⟨rfl,d',m,os,hp,hs,rfl⟩
  obtain⟨k1,k2⟩:=Zgc enc d' m os hcur
  have hd's:d'.size=n:=by rw[hp.1,hds]
  have hB:Zah (fun b=>(Value.slice (some ⟨g,0,none⟩) n c).ownBlock=some b) w (sortWorld enc w g 0 m d' os):=k2.mono fun b _ e=>by simp[Value.ownBlock,e]
  refine⟨rfl,d'.toList.map enc,d'.toList.map f,?_,⟨by simp,fun i r v h1 h2=>?_⟩,?_,?_,hB⟩
  ·refine⟨by simp[hd's],?_⟩
   rcases hown.2 with⟨h1,_⟩|⟨g',c',cur',h1,hb',hg',hnc,hcm,hs',ht⟩
   ·cases h1
   ·cases h1
    rw[hcur] at hg'
    cases hg'
    exact .inr ⟨g,c,Sort.putCells enc 0 d' cur,rfl,hb',k1,hnc,hcm,by simp[Sort.putCells,hs'],by rw[Nat.mul_one,←ZfE enc d' cur (by omega),hd's]⟩
  ·rw[List.getElem?_map] at h1 h2
   obtain⟨x,hx,rfl⟩:=Option.map_eq_some_iff.1 h1
   obtain⟨y,hy,rfl⟩:=Option.map_eq_some_iff.1 h2
   rw[hx] at hy
   cases hy
   exact Zgb (hrow x) hown hB
  ·have e1:d.toList.map f=ws:=by
    apply List.ext_getElem
    ·simp[hds,hwl]
    ·intro i h1 h2
     rw[List.getElem_map]
     have h3:i<n:=by omega
     have h4:d.toList[i]'(by simp at h1;simpa using h1)=⟨i,h3⟩:=by
      have:=hdat i h3
      rw[getElem!_pos d i (by omega)] at this
      simpa using this
     rw[h4]
     have:=(hat ⟨i,h3⟩).2
     rw[zge h2] at this
     exact(Option.some.inj this).symm
   rw[←e1]
   have hpp:=hp.2.2
   have x1:d'.extract 0 n=d':=ZdT hd's
   have x2:d.extract 0 n=d:=ZdT hds
   rw[x1,x2] at hpp
   exact hpp.map f
  ·refine List.pairwise_iff_getElem.2 fun i j hi hj hij=>?_
   have hi':i<d'.size:=by simpa using hi
   have hj':j<d'.size:=by simpa using hj
   have:=hs i j (Nat.zero_le _) hij (by omega)
   rw[getElem!_pos d' i hi',getElem!_pos d' j hj'] at this
   simpa [ltOf] using this
