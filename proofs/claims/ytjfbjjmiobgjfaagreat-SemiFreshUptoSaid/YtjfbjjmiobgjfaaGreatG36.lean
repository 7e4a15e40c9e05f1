/- The walk of the matcher's add: a test, at the place where all that it asks for is known. -/
import Derived.Test.YtjfbjjmiobgjfaaGreatG34
set_option maxRecDepth 100000
set_option maxHeartbeats 8000000
namespace Go.Proofs.YtjfbjjmiobgjfaaGreat
theorem Zb9 {α:Type}(l:List α)(i:Nat)(a:α):l.toArray.setIfInBounds i a=(l.set i a).toArray:=List.setIfInBounds_toArray ..
theorem Zca {α:Type}(a b:α)(l:List α):(a::l).set 0 b=b::l:=List.set_cons_zero ..
theorem Zcb {α:Type}(a b:α)(l:List α)(n:Nat):(a::l).set (n+1) b=a::l.set n b:=List.set_cons_succ ..
abbrev ZuM:Oper:=⟨some 4,.move (.tmp 0),126, "leap.go:105",#[],none⟩
abbrev ZuN:Oper:=⟨some 5,.nilCheck (.tmp 4),0, "leap.go:105",#[⟨0,.data⟩],none⟩
abbrev ZuO:Oper:=⟨some 6,.fieldAddr 160 (.tmp 5) 3,0, "leap.go:105",#[⟨1,.data⟩],none⟩
abbrev ZuP:Oper:=⟨some 7,.load 158 (.tmp 6),158, "leap.go:105",#[⟨2,.data⟩],none⟩
abbrev ZuQ:Oper:=⟨some 8,.fieldAddr 168 (.tmp 3) 0,0, "leap.go:105",#[],none⟩
abbrev ZuR:Oper:=⟨some 9,.load 3 (.tmp 8),3, "leap.go:105",#[⟨4,.data⟩],none⟩
abbrev ZuS:Oper:=⟨some 10,.binOp .add 3 (.tmp 9) (.const (.int .i64 1)) 3,3, "leap.go:105",#[⟨5,.data⟩],none⟩
abbrev ZuT:Oper:=⟨some 11,.move (.tmp 0),126, "leap.go:105",#[],none⟩
abbrev ZuU:Oper:=⟨some 12,.nilCheck (.tmp 11),0, "leap.go:105",#[⟨7,.data⟩],none⟩
abbrev ZuV:Oper:=⟨some 13,.fieldAddr 160 (.tmp 12) 3,0, "leap.go:105",#[⟨8,.data⟩],none⟩
abbrev Zuc:Oper:=⟨some 14,.load 158 (.tmp 13),158, "leap.go:105",#[⟨9,.data⟩],none⟩
abbrev Zud:Oper:=⟨some 15,.fieldAddr 168 (.tmp 3) 0,0, "leap.go:105",#[],none⟩
abbrev Zue:Oper:=⟨some 16,.load 3 (.tmp 15),3, "leap.go:105",#[⟨11,.data⟩],none⟩
abbrev Zuf:Oper:=⟨some 17,.binOp .add 3 (.tmp 16) (.const (.int .i64 1)) 3,3, "leap.go:105",#[⟨12,.data⟩],none⟩
abbrev Zug:Oper:=⟨some 18,.indexAddr 158 (.tmp 14) (.tmp 17),0, "leap.go:105",#[⟨10,.data⟩,⟨13,.data⟩],none⟩
abbrev Zuh:Oper:=⟨some 19,.load 201 (.tmp 18),201, "leap.go:105",#[⟨14,.data⟩],none⟩
abbrev Zui:Oper:=⟨some 20,.load 168 (.tmp 3),168, "leap.go:105",#[],none⟩
abbrev Zuj:Oper:=⟨some 23,.indexAddr 158 (.tmp 7) (.tmp 10),0, "leap.go:105",#[⟨3,.data⟩,⟨6,.data⟩,⟨0,.phase⟩,⟨1,.phase⟩,⟨2,.phase⟩,⟨3,.phase⟩,⟨4,.phase⟩,⟨5,.phase⟩,⟨6,.phase⟩,⟨7,.phase⟩,⟨8,.phase⟩,⟨9,.phase⟩,⟨10,.phase⟩,⟨11,.phase⟩,⟨12,.phase⟩,⟨13,.phase⟩,⟨14,.phase⟩,⟨15,.phase⟩,⟨16,.phase⟩,⟨17,.phase⟩,⟨18,.phase⟩],none⟩
open ChangeShapes WideShapes ChangeAt RowKit
set_option linter.unusedSimpArgs false
theorem Zoy:(Tryz.prog.info? 168).map (fun i=>(i.zero,i.size,i.bytes))=some (some (.agg #[.int .i64 0,.nilFunc]),2,16):=by kernel_rfl
theorem ZuW (w:World)(u u':Value)(t:TypeId):∀j x,[u,u'][j]? =some x→(w.alloc (.cells #[u,u'] t)).cell? ((⟨w.heap.size,0,none⟩:Addr).add j)=some x:=by
 intro j x hx
 have hh:=heap_alloc_new w (.cells #[u,u'] t)
 rw[Addr.add_lit]
 generalize w.alloc (.cells #[u,u'] t)=W at hh ⊢
 match j,hx with
 |0,hx=>cases hx;simp[World.cell?,hh]
 |1,hx=>cases hx;simp[World.cell?,hh]
theorem ZhG {ops:Array Oper}{o:Oper}{a:Act}{K:Act→World→Prop}{Q:Exit→Act→World→Prop}{E:Prop}(W0:World)(z1:Int)(fv:Value)(base:Nat)(fa:Option Addr)(n fc:Nat)(l:List Value)(hown:W0.ownsRow base 168 2 (.slice fa n fc) n l)(hn:n≤1000000)(hbase:base≤W0.heap.size)(hfv:fv.oneCell'=true)(hgd:o.guard=none)(s x:Operand)
  (ho:o.op=.call {callee:=.builtin .append,args:=#[s,x],argTypes:=#[201,201]}) (hs:a.eval s=.slice fa n fc) (hx:a.eval x=.slice (some ⟨W0.heap.size,0,none⟩) 1 1)
  (h:∀g cap w',w'.ownsRow base 168 2 (.slice (some ⟨g,0,none⟩) (n+1) cap) (n+1) (l++[.int .i64 z1,fv])→(W0.alloc (.cells #[.int .i64 z1,fv] 168)).grownBy w' (Value.slice fa n fc).ownBlock→((Value.slice fa n fc).ownBlock=some g∨g=(W0.alloc (.cells #[.int .i64 z1,fv] 168)).heap.size)→K (a.put o.dst (.slice (some ⟨g,0,none⟩) (n+1) cap)) w'):
  if Region.wanted o (yielded ops a.tmps)=true then Oper.wp Tryz.prog o a (W0.alloc (.cells #[.int .i64 z1,fv] 168)) K Q else E:=by
 obtain⟨n0,hn0,nz0,nz1,nz2⟩:=info_parts Zoy
 exact step_append_lies _ hgd s x 201 ho base 168 n0 (.agg #[.int .i64 0,.nilFunc]) 2 16 Tryz.underlying201 hn0 nz0 nz1 nz2 rfl (by decide) _ n l hs (hown.alloc _) ⟨W0.heap.size,0,none⟩ 1 1 [.int .i64 z1,fv] hx rfl (ZuW W0 _ _ _) (by intro u hu;simp at hu;rcases hu with rfl|rfl;rfl;exact hfv) (by omega) (by unfold maxLen;omega) (by omega) (by simp;omega) _ rfl fun g cap w1 hown1 hgrow hat _=>h g cap w1 hown1 hgrow hat
def ZlP (C:Nat→Prop)(B0 pm:Nat)(an:Option Addr)(n cn:Nat)(at_:Nat→List Nat)(pts:List Nat)(tl:Nat→List (Int×Value))(v:Nat)(z:Int×Value)(w:World)(e:Ending)(w':World):Prop:=(∃v,e=.returned v)∧∃C',ZeJ w' C' B0 pm an n cn at_ pts (Zf5 tl v (tl v++[z]))∧ZeU C C' w w'
theorem Zuk (C:Nat→Prop)(B0 pm:Nat)(an:Option Addr)(n cn:Nat)(at_:Nat→List Nat)(pts:List Nat)(tl:Nat→List (Int×Value))(v:Nat)(z1:Int)(fv:Value)(w:World)(h:ZeJ w C B0 pm an n cn at_ pts tl)(hv:v<n+1)(hz:z1+1=(v:Int))(hn:n≤1000000)(htl:(tl v).length≤1000000)(hfv:fv.oneCell'=true)(hB:B0≤w.heap.size):
  Calls Tryz.prog 104 #[.pointer (some ⟨pm,0,none⟩),.agg #[.int .i64 z1,fv]] w (ZlP C B0 pm an n cn at_ pts tl v (z1,fv) w):=by
 have H:=zh h
 have hpm:=h.ty.lt
 clear h
 go_enter Tryz.func104,Tryz.ntmps104
 go_wp2
 obtain⟨p3,hp3⟩:∃p3,w.heap.size=p3:=⟨_,rfl⟩
 have EW2:Ext w (w.alloc (.cells #[.int .i64 z1,fv] 168)):=Zab zbr _
 have D0:(w.alloc (.cells #[.int .i64 z1,fv] 168)).cell? ⟨p3,0,none⟩=some (.int .i64 z1):=by rw[←hp3];go_simp
 have D1:(w.alloc (.cells #[.int .i64 z1,fv] 168)).cell? ⟨p3,1,none⟩=some fv:=by rw[←hp3];go_simp
 generalize w.alloc (.cells #[.int .i64 z1,fv] 168)=W2 at EW2 D0 D1 ⊢
 rw[hp3]
 have MD:=(H.out.ext EW2).ext (Zaf (Below.refl _ W2))
 have CLW:∀b,C b→b<p3:=fun b hb=>by have:=(H.out.low b hb).2;omega
 obtain⟨gt,ct,a1,a2⟩:=MD.tests
 obtain⟨fw,f1,_⟩:=a2.each
 obtain⟨x1,x2,x3,x4⟩:=f1 v hv
 obtain⟨xv,hxv⟩:∃xv,fw v=xv:=⟨_,rfl⟩
 rw[hxv] at x1 x3 x4
 obtain⟨fa,fc,e9,_⟩:=Zag x3
 subst e9
 obtain⟨la,hla⟩:∃la,(tl v).length=la:=⟨_,rfl⟩
 rw[hla] at x1 x3 x4 htl
 have PUSHQ:Hid (∀g c w6,w6.ownsRow B0 168 2 (.slice (some ⟨g,0,none⟩) (la+1) c) (la+1) (Zfm (tl v)++[.int .i64 z1,fv])→(W2.drew.alloc (.cells #[.int .i64 z1,fv] 168)).grownBy w6 (Value.slice fa la fc).ownBlock→((Value.slice fa la fc).ownBlock=some g∨W2.heap.size≤g)→w6.cell? ⟨pm,3,none⟩=some (.slice (some ⟨gt,0,none⟩) (n+1) ct)∧w6.cell? ⟨gt,v,none⟩=some (.slice fa la fc)∧w6.frozen? ⟨gt,v,none⟩=false∧(w6.cell? ⟨p3,0,none⟩=some (.int .i64 z1)∧w6.cell? ⟨p3,1,none⟩=some fv)∧∃C2,ZeJ (w6.setCell ⟨gt,v,none⟩ (.slice (some ⟨g,0,none⟩) (la+1) c)) C2 B0 pm an n cn at_ pts (Zf5 tl v (tl v++[(z1,fv)]))∧ZeU C C2 W2.drew (w6.setCell ⟨gt,v,none⟩ (.slice (some ⟨g,0,none⟩) (la+1) c))):=fun g c w6 q1 q2 q3=>by
  subst hla
  obtain⟨r1,r2,r3⟩:=MD.test_push (z:=(z1,fv)) (o:=.cells #[.int .i64 z1,fv] 168) a1 hv x1 q1 q2 q3
  have BX:=((Zah.refl (fun b=>(Value.slice fa (tl v).length fc).ownBlock=some b) W2.drew).alloc (.cells #[.int .i64 z1,fv] 168)).grown q2 (fun b e=>.inl e)
  have np3:¬(Value.slice fa (tl v).length fc).ownBlock=some p3:=fun e=>by have:=CLW _ (x4 _ e);omega
  exact⟨BX.cell (fun e=>(ZaN x3 e).ne MD.ty (by decide) rfl) a1,r1,r2,⟨BX.cell np3 D0,BX.cell np3 D1⟩,r3⟩
 have OWF:Hid (W2.drew.ownsRow B0 168 2 (.slice fa la fc) la (Zfm (tl v))):=x3
 obtain⟨lz,hlz⟩:∃lz,Zfm (tl v)=lz:=⟨_,rfl⟩
 rw[hlz] at PUSHQ OWF
 have hvni:(v:Int)<(n:Int)+1:=by omega
 have hwz:IntKind.i64.wrap (z1+1)=(v:Int):=by rw[hz,IntKind.wrap_i64];omega
 have hal:=htl
 have hb2:B0≤W2.drew.heap.size:=Nat.le_trans hB EW2.size
 have hSS:W2.drew.cell? ⟨pm,3,none⟩=some (.slice (some ⟨gt,0,none⟩) (n+1) ct)∧W2.drew.cell? ⟨p3,0,none⟩=some (.int .i64 z1)∧W2.drew.cell? ⟨p3,1,none⟩=some fv∧W2.drew.cell? ⟨gt,v,none⟩=some (.slice fa la fc):=⟨a1,D0,D1,x1⟩
 have hS17:Hid (∀o,(W2.drew.alloc o).cell? ⟨pm,3,none⟩=some (.slice (some ⟨gt,0,none⟩) (n+1) ct)∧(W2.drew.alloc o).cell? ⟨p3,0,none⟩=some (.int .i64 z1)∧(W2.drew.alloc o).cell? ⟨p3,1,none⟩=some fv∧(W2.drew.alloc o).cell? ⟨gt,v,none⟩=some (.slice fa la fc)):=fun o=>⟨Zac (Zab zbr o) a1,Zac (Zab (Below.refl _ W2.drew) o) D0,Zac (Zab (Below.refl _ W2.drew) o) D1,Zac (Zab zbr o) x1⟩
 have mixed:Tryz.prog.follows .mixedOrders=true:=by kernel_rfl
 have EWD:Hid (Ext w W2.drew):=Zaa EW2 (Zaf zbr)
 clear MD a2 f1 x2 x3 x4 hxv hla hlz EW2 D0 D1 a1 x1 hz
 refine Zha (fun w'=>w'.cell? ⟨pm,3,none⟩=some (.slice (some ⟨gt,0,none⟩) (n+1) ct)∧w'.cell? ⟨p3,0,none⟩=some (.int .i64 z1)∧w'.cell? ⟨p3,1,none⟩=some fv∧w'.cell? ⟨gt,v,none⟩=some (.slice fa la fc)) 20 mixed hSS (fun hS0=>?_)
 refine ZaB (i:=0) (oi:=ZuM) (v:=?_) rfl (by kernel_rfl) (by kernel_rfl) (by kernel_rfl) (by kernel_rfl) (fun _ _ _ h=>h) (Or.inl ⟨by rfl,?_⟩) (by assumption) ?_
 rotate_left
 focus (intro wS hS;go_simp;try with_reducible rfl)
 try simp only[Act.put,Zb9,Zca,Zcb]
 refine ZaB (i:=1) (oi:=ZuN) (v:=?_) rfl (by kernel_rfl) (by kernel_rfl) (by kernel_rfl) (by kernel_rfl) (fun _ _ _ h=>h) (Or.inl ⟨by rfl,?_⟩) (by assumption) ?_
 rotate_left
 focus (intro wS hS;go_simp;try with_reducible rfl)
 try simp only[Act.put,Zb9,Zca,Zcb]
 refine ZaB (i:=2) (oi:=ZuO) (v:=?_) rfl (by kernel_rfl) (by kernel_rfl) (by kernel_rfl) (by kernel_rfl) (fun _ _ _ h=>h) (Or.inl ⟨by rfl,?_⟩) (by assumption) ?_
 rotate_left
 focus (intro wS hS;go_simp;try with_reducible rfl)
 try simp only[Act.put,Zb9,Zca,Zcb]
 refine ZaB (i:=3) (oi:=ZuP) (v:=?_) rfl (by kernel_rfl) (by kernel_rfl) (by kernel_rfl) (by kernel_rfl) (fun _ _ _ h=>h) (Or.inl ⟨by rfl,?_⟩) (by assumption) ?_
 rotate_left
 focus (intro wS hS;obtain⟨s1,s2,s3,s4⟩:=hS;go_simp;try with_reducible rfl)
 try simp only[Act.put,Zb9,Zca,Zcb]
 refine ZaB (i:=4) (oi:=ZuQ) (v:=?_) rfl (by kernel_rfl) (by kernel_rfl) (by kernel_rfl) (by kernel_rfl) (fun _ _ _ h=>h) (Or.inl ⟨by rfl,?_⟩) (by assumption) ?_
 rotate_left
 focus (intro wS hS;go_simp;try with_reducible rfl)
 try simp only[Act.put,Zb9,Zca,Zcb]
 refine ZaB (i:=5) (oi:=ZuR) (v:=?_) rfl (by kernel_rfl) (by kernel_rfl) (by kernel_rfl) (by kernel_rfl) (fun _ _ _ h=>h) (Or.inl ⟨by rfl,?_⟩) (by assumption) ?_
 rotate_left
 focus (intro wS hS;obtain⟨s1,s2,s3,s4⟩:=hS;go_simp;try with_reducible rfl)
 try simp only[Act.put,Zb9,Zca,Zcb]
 refine ZaB (i:=6) (oi:=ZuS) (v:=?_) rfl (by kernel_rfl) (by kernel_rfl) (by kernel_rfl) (by kernel_rfl) (fun _ _ _ h=>h) (Or.inl ⟨by rfl,?_⟩) (by assumption) ?_
 rotate_left
 focus (intro wS hS;go_simp;try with_reducible rfl)
 try simp only[Act.put,Zb9,Zca,Zcb]
 refine ZaB (i:=7) (oi:=ZuT) (v:=?_) rfl (by kernel_rfl) (by kernel_rfl) (by kernel_rfl) (by kernel_rfl) (fun _ _ _ h=>h) (Or.inl ⟨by rfl,?_⟩) (by assumption) ?_
 rotate_left
 focus (intro wS hS;go_simp;try with_reducible rfl)
 try simp only[Act.put,Zb9,Zca,Zcb]
 refine ZaB (i:=8) (oi:=ZuU) (v:=?_) rfl (by kernel_rfl) (by kernel_rfl) (by kernel_rfl) (by kernel_rfl) (fun _ _ _ h=>h) (Or.inl ⟨by rfl,?_⟩) (by assumption) ?_
 rotate_left
 focus (intro wS hS;go_simp;try with_reducible rfl)
 try simp only[Act.put,Zb9,Zca,Zcb]
 refine ZaB (i:=9) (oi:=ZuV) (v:=?_) rfl (by kernel_rfl) (by kernel_rfl) (by kernel_rfl) (by kernel_rfl) (fun _ _ _ h=>h) (Or.inl ⟨by rfl,?_⟩) (by assumption) ?_
 rotate_left
 focus (intro wS hS;go_simp;try with_reducible rfl)
 try simp only[Act.put,Zb9,Zca,Zcb]
 refine ZaB (i:=10) (oi:=Zuc) (v:=?_) rfl (by kernel_rfl) (by kernel_rfl) (by kernel_rfl) (by kernel_rfl) (fun _ _ _ h=>h) (Or.inl ⟨by rfl,?_⟩) (by assumption) ?_
 rotate_left
 focus (intro wS hS;obtain⟨s1,s2,s3,s4⟩:=hS;go_simp;try with_reducible rfl)
 try simp only[Act.put,Zb9,Zca,Zcb]
 refine ZaB (i:=11) (oi:=Zud) (v:=?_) rfl (by kernel_rfl) (by kernel_rfl) (by kernel_rfl) (by kernel_rfl) (fun _ _ _ h=>h) (Or.inl ⟨by rfl,?_⟩) (by assumption) ?_
 rotate_left
 focus (intro wS hS;go_simp;try with_reducible rfl)
 try simp only[Act.put,Zb9,Zca,Zcb]
 refine ZaB (i:=12) (oi:=Zue) (v:=?_) rfl (by kernel_rfl) (by kernel_rfl) (by kernel_rfl) (by kernel_rfl) (fun _ _ _ h=>h) (Or.inl ⟨by rfl,?_⟩) (by assumption) ?_
 rotate_left
 focus (intro wS hS;obtain⟨s1,s2,s3,s4⟩:=hS;go_simp;try with_reducible rfl)
 try simp only[Act.put,Zb9,Zca,Zcb]
 refine ZaB (i:=13) (oi:=Zuf) (v:=?_) rfl (by kernel_rfl) (by kernel_rfl) (by kernel_rfl) (by kernel_rfl) (fun _ _ _ h=>h) (Or.inl ⟨by rfl,?_⟩) (by assumption) ?_
 rotate_left
 focus (intro wS hS;go_simp;try with_reducible rfl)
 try simp only[Act.put,Zb9,Zca,Zcb]
 refine ZaB (i:=14) (oi:=Zug) (v:=?_) rfl (by kernel_rfl) (by kernel_rfl) (by kernel_rfl) (by kernel_rfl) (fun _ _ _ h=>h) (Or.inl ⟨by rfl,?_⟩) (by assumption) ?_
 rotate_left
 focus (intro wS hS;go_simp;try with_reducible rfl)
 try simp only[Act.put,Zb9,Zca,Zcb]
 refine ZaB (i:=15) (oi:=Zuh) (v:=?_) rfl (by kernel_rfl) (by kernel_rfl) (by kernel_rfl) (by kernel_rfl) (fun _ _ _ h=>h) (Or.inl ⟨by rfl,?_⟩) (by assumption) ?_
 rotate_left
 focus (intro wS hS;obtain⟨s1,s2,s3,s4⟩:=hS;go_simp;try with_reducible rfl)
 try simp only[Act.put,Zb9,Zca,Zcb]
 refine ZaB (i:=16) (oi:=Zui) (v:=?_) rfl (by kernel_rfl) (by kernel_rfl) (by kernel_rfl) (by kernel_rfl) (fun _ _ _ h=>h) (Or.inl ⟨by rfl,?_⟩) (by assumption) ?_
 rotate_left
 focus (intro wS hS;obtain⟨s1,s2,s3,s4⟩:=hS;go_simp;try with_reducible rfl)
 try simp only[Act.put,Zb9,Zca,Zcb]
 refine ZcC (i:=17) (by kernel_rfl) rfl (fun K hK=>?_)
 go_simp
 refine hK.out _ _ (fun hne=>?_) ?_
 ·exact hS17.out _
 clear hK K
 try simp only[Act.put,Zb9,Zca,Zcb]
 refine ZcC (i:=18) (by kernel_rfl) rfl (fun K hK=>?_)
 refine ZhG W2.drew z1 fv B0 fa la fc lz OWF.out hal hb2 hfv (by rfl) _ _ (by rfl) (by rfl) (by rfl) ?_
 intro g6 c6 w6 p1 p2 p4
 obtain⟨u0,u1,u2,u3,C2,M2,V2⟩:=PUSHQ.out g6 c6 w6 p1 p2 (p4.imp id (fun e=>by rw[e];simp))
 have hS18:=And.intro u0 (And.intro u3.1 (And.intro u3.2 u1))
 refine hK.out _ _ (fun hne=>?_) ?_
 ·exact hS18
 clear hK K
 try simp only[Act.put,Zb9,Zca,Zcb]
 refine ZaB (i:=19) (oi:=Zuj) (v:=?_) rfl (by kernel_rfl) (by kernel_rfl) (by kernel_rfl) (by kernel_rfl) (fun _ _ _ h=>h) (Or.inl ⟨by rfl,?_⟩) (by assumption) ?_
 rotate_left
 focus (intro wS hS;go_simp;try with_reducible rfl)
 try simp only[Act.put,Zb9,Zca,Zcb]
 refine ZcC (i:=20) (by kernel_rfl) rfl (fun K hK=>?_)
 go_simp
 refine hK.out _ _ (fun hne=>?_) ?_
 ·exact absurd rfl hne
 clear hK K
 try simp only[Act.put,Zb9,Zca,Zcb]
 refine ZeV (by kernel_rfl) ?_ _
 go_end0
 exact⟨⟨_,rfl⟩,C2,M2,ZeU.pre EWD.out V2⟩
open K (ZaG Zda ZaQ Zaq Zbl ZaR Zbw Zcm)
abbrev Zhc:=Int×(List ByteArray→Bool)
def ZpA (w:World)(C:Nat→Prop)(B0 n:Nat)(fv:Value)(q:List ByteArray→Bool):Prop:=∀W,Zah (fun b=>b<B0∨C b) w W→∀(x:List ByteArray) (ar:Option Addr) (cr:Nat),Zai W ar n x→x.length=n→Ztj W (.slice ar n cr) fv (q x)
theorem ZpA.mv {w w':World}{C C':Nat→Prop}{B0 n:Nat}{fv:Value}{q:List ByteArray→Bool}(h:ZpA w C B0 n fv q)(m:ZeU C C' w w'):ZpA w' C' B0 n fv q:=fun W hW=>h W (ZbO (m.1.mono fun _ _ hb=>.inr hb) hW (fun b hb=>hb.elim (fun q=>.inl (.inl q)) (fun q=>(m.2 b q).imp .inr id)))
theorem Zay.far {w w':World}{S:Nat→Prop}{pr ar Z:Nat}{rs:List (List ByteArray)}(h:Zay w (pr+1) pr ar rs)(e:Zah S w w')(hZ:Z≤pr)(hS:∀b,S b→b<Z):Zay w' (pr+1) pr ar rs:=by
 obtain⟨a,c,vs,r1,r2,r3⟩:=h.row
 have n1:¬S pr:=fun q=>by have:=hS _ q;omega
 have n2:∀b,pr+1≤b→¬S b:=fun b hb q=>by have:=hS _ q;omega
 exact⟨h.lt,e.cell n1 h.c0,e.cell n1 h.c2,ZaE e n1 (World.block_lt_of_cell? w ⟨pr,1,none⟩ r1) h.free,a,c,vs,e.cell n1 r1,e.own r2 (fun b hb=>n2 b (r2.lt b hb).1),fun i r v hr hv=>e.own (r3 i r v hr hv) (fun b hb=>n2 b ((r3 i r v hr hv).lt b hb).1)⟩
theorem Zoz {w:World}{C:Nat→Prop}{B0 n Z pr bt cv:Nat}{av:Option Addr}{vars:List Nat}{rs:List (List ByteArray)}(hC:∀b,b<B0∨C b→b<Z)(hr:Zay w (pr+1) pr vars.length rs)(hpr:Z≤pr)(hri:Zbg rs)(hn:rs.length≤1000000)(h0:w.cell? ⟨bt,0,none⟩=some (.slice av vars.length cv))(h1:w.cell? ⟨bt,1,none⟩=some (.pointer (some ⟨pr,0,none⟩)))(hbt:Z≤bt)(hv:w.ownsRow Z 3 1 (.slice av vars.length cv) vars.length (vars.map ZhV))(hlt:∀v∈vars,v<n)(hvn:vars.length≤1000000):
  ZpA w C B0 n (.func (.func 132) #[] #[.pointer (some ⟨bt,0,none⟩)]) (fun x=>!ZaX rs (vars.map (gt x))):=by
 intro W hW x ar cr hx _
 refine .inl ⟨bt,rfl,fun W2 hW2=>?_⟩
 have nb:∀{b},Z≤b→¬(b<B0∨C b):=fun hb q=>by have:=hC _ q;omega
 have hv2:=hW.own hv (fun b hb=>nb (hv.lt b hb).1)
 obtain⟨m,hm⟩:∃m,vars.length=m:=⟨_,rfl⟩
 refine ZmI (pr+1) pr vars.length bt vars av cv rs x ar n cr W2 ((hr.far hW hpr hC).ext hW2) hri hn (hx.keep hW2) (Zac hW2 (hW.cell (nb hbt) h0)) (Zac hW2 (hW.cell (nb hbt) h1)) (fun j v hj=>?_) hlt hvn
 have hjl:=(zgs hj).1
 rw[hm] at hv2 hjl
 rcases hv2.2 with⟨e1,e2⟩|⟨g,c',cur,e1,_⟩
 ·injection e1 with e3 e4 e5
  omega
 ·cases e1
  have:=hv2.cells (g:=g) rfl j (ZhV v) (by rw[List.getElem?_map,hj];rfl)
  rw[Addr.add_lit] at this
  exact⟨g,0,rfl,Zac hW2 this⟩
theorem Zql {w:World}{C:Nat→Prop}{B0 n Z:Nat}{a b op k1 k2:Int}{t1 t2:ByteArray}{p1 p2 p3 p4:Nat}(hC:∀b,b<B0∨C b→b<Z)(hz:Z≤p1∧Z≤p2∧Z≤p3∧Z≤p4)(ha:a<(n:Int))(hb:b<(n:Int))
  (h1:w.cell? ⟨p1,0,none⟩=some (.func (.func 133) #[] #[])) (h2:w.cell? ⟨p2,0,none⟩=some (.int .i64 a)) (h3:w.cell? ⟨p3,3,none⟩=some (.int .i64 op)) (h4:w.cell? ⟨p3,4,none⟩=some (.int .i64 k1)) (h5:w.cell? ⟨p3,5,none⟩=some (.string t1)) (h6:w.cell? ⟨p3,6,none⟩=some (.int .i64 k2)) (h7:w.cell? ⟨p3,7,none⟩=some (.string t2)) (h8:w.cell? ⟨p4,0,none⟩=some (.int .i64 b)):
  ZpA w C B0 n (.func (.func 134) #[] #[.pointer (some ⟨p1,0,none⟩),.pointer (some ⟨p2,0,none⟩),.pointer (some ⟨p3,0,none⟩),.pointer (some ⟨p4,0,none⟩)]) (fun x=>ZkB op (Zco x a t1) (Zco x b t2)):=by
 intro W hW x ar cr hx _
 refine .inr ⟨p1,p2,p3,p4,rfl,fun W2 hW2=>?_⟩
 have nb:∀{b},Z≤b→¬(b<B0∨C b):=fun hb q=>by have:=hC _ q;omega
 exact ZkC x ar n cr a b op k1 k2 t1 t2 p1 p2 p3 p4 W2 (hx.keep hW2) ha hb (Zac hW2 (hW.cell (nb hz.1) h1)) (Zac hW2 (hW.cell (nb hz.2.1) h2)) (Zac hW2 (hW.cell (nb hz.2.2.1) h3)) (Zac hW2 (hW.cell (nb hz.2.2.1) h4)) (Zac hW2 (hW.cell (nb hz.2.2.1) h5)) (Zac hW2 (hW.cell (nb hz.2.2.1) h6)) (Zac hW2 (hW.cell (nb hz.2.2.1) h7)) (Zac hW2 (hW.cell (nb hz.2.2.2) h8))
def Zf6 (S:List Zhc)(v:Nat):List Zhc:=S.filter fun s=>decide (s.1+1=(v:Int))
theorem ZhY (S:List Zhc)(s:Zhc)(v:Nat):Zf6 (S++[s]) v=Zf6 S v++if s.1+1=(v:Int) then [s] else []:=by
 unfold Zf6
 rw[List.filter_append]
 by_cases h:s.1+1=(v:Int) <;> simp[h]
structure ZjF (w:World)(C:Nat→Prop)(B0 n:Nat)(tl:Nat→List (Int×Value))(S:List Zhc):Prop where
 len:∀v,(tl v).length=(Zf6 S v).length
 stat:∀(v j:Nat) (z:Int×Value) (s:Zhc),(tl v)[j]? =some z→(Zf6 S v)[j]? =some s→ZpA w C B0 n z.2 s.2
theorem ZjF.nil (w:World)(C:Nat→Prop)(B0 n:Nat):ZjF w C B0 n (fun _=>[]) []:=⟨fun _=>rfl,fun v j z s h=>by simp at h⟩
theorem ZjF.mv {w w':World}{C C':Nat→Prop}{B0 n:Nat}{tl:Nat→List (Int×Value)}{S:List Zhc}(h:ZjF w C B0 n tl S)(m:ZeU C C' w w'):ZjF w' C' B0 n tl S:=⟨h.len,fun v j z s h1 h2=>(h.stat v j z s h1 h2).mv m⟩
theorem ZjF.ext {w w':World}{C:Nat→Prop}{B0 n:Nat}{tl:Nat→List (Int×Value)}{S:List Zhc}(h:ZjF w C B0 n tl S)(e:Ext w w'):ZjF w' C B0 n tl S:=h.mv ⟨(Zah.refl _ _).ext e,fun _ hb=>.inl hb⟩
theorem ZjF.snoc {w:World}{C:Nat→Prop}{B0 n:Nat}{tl:Nat→List (Int×Value)}{S:List Zhc}(h:ZjF w C B0 n tl S){v:Nat}{s:Zhc}{fv:Value}(hv:s.1+1=(v:Int))(hs:ZpA w C B0 n fv s.2):ZjF w C B0 n (Zf5 tl v (tl v++[(s.1,fv)])) (S++[s]):=by
 refine⟨fun u=>?_,fun u j z t h1 h2=>?_⟩
 ·rw[ZhY,List.length_append,←h.len u]
  unfold Zf5
  by_cases hu:u=v
  ·subst hu
   rw[if_pos rfl,if_pos hv]
   simp
  ·rw[if_neg hu,if_neg (by omega)]
   simp
 ·rw[ZhY] at h2
  unfold Zf5 at h1
  by_cases hu:u=v
  ·subst hu
   rw[if_pos rfl] at h1
   rw[if_pos hv] at h2
   by_cases hj:j<(tl u).length
   ·rw[List.getElem?_append_left hj] at h1
    rw[List.getElem?_append_left (by rw[←h.len u];exact hj)] at h2
    exact h.stat u j z t h1 h2
   ·rw[List.getElem?_append_right (by omega)] at h1
    rw[List.getElem?_append_right (by rw[←h.len u];omega),←h.len u] at h2
    have h0:j-(tl u).length=0:=by
     have:=(zgs h1).1
     simp at this
     omega
    rw[h0] at h1 h2
    simp at h1 h2
    subst h1 h2
    exact hs
  ·rw[if_neg hu] at h1
   rw[if_neg (by omega),List.append_nil] at h2
   exact h.stat u j z t h1 h2
def Zhd (n:Nat)(s:Zhc):Prop:= -1≤s.1∧s.1<(n:Int)∧∀x:List ByteArray,s.2 (x.take (s.1+1).toNat)=s.2 x
theorem Zqm {vars:List Nat}(h:vars.Pairwise (·<·)):∀v∈vars,(v:Int)≤Zf4 vars:=by
 intro v hv
 unfold Zf4
 rcases vars.eq_nil_or_concat with e|⟨pre,z,e⟩
 ·subst e;cases hv
 ·rw[List.concat_eq_append] at e
  subst e
  rw[List.getLast?_concat]
  rcases List.mem_append.1 hv with q|q
  ·have:=(List.pairwise_append.1 h).2.2 v q z (by simp)
   simp
   omega
  ·rw[List.mem_singleton.1 q]
   exact Int.le_refl _
theorem ZiM {vars:List Nat}{n:Nat}(h:∀v∈vars,v<n):-1≤Zf4 vars∧Zf4 vars<(n:Int):=by
 unfold Zf4
 cases e:vars.getLast? with
 |none=>simp;omega
 |some z=>
  have:=h z (List.mem_of_getLast? e)
  simp only
  omega
theorem Zqn {n:Nat}{vars:List Nat}{rs:List (List ByteArray)}(h:vars.Pairwise (·<·))(hlt:∀v∈vars,v<n):Zhd n (Zf4 vars,fun x=>!ZaX rs (vars.map (gt x))):=by
 refine⟨(ZiM hlt).1,(ZiM hlt).2,fun x=>?_⟩
 show (!ZaX rs (vars.map (gt (x.take (Zf4 vars+1).toNat))))=(!ZaX rs (vars.map (gt x)))
 congr 2
 refine List.map_congr_left fun v hv=>Zkj ?_
 have:=Zqm h v hv
 omega
theorem ZsC {n:Nat}{a b op:Int}{t1 t2:ByteArray}(ha:-1≤a∧a<(n:Int))(hb:-1≤b∧b<(n:Int)):Zhd n (max a b,fun x=>ZkB op (Zco x a t1) (Zco x b t2)):=by
 refine⟨by simp only;omega,by simp only;omega,fun x=>?_⟩
 have key:∀c t,-1≤c→c≤max a b→Zco (x.take (max a b+1).toNat) c t=Zco x c t:=fun c t h0 h1=>by
  unfold Zco
  split
  ·rfl
  ·exact Zkj (by omega)
 show ZkB op (Zco (x.take (max a b+1).toNat) a t1) (Zco (x.take (max a b+1).toNat) b t2)=_
 rw[key a t1 ha.1 (by omega),key b t2 hb.1 (by omega)]
def ZoA (S:List Zhc)(v:Nat)(x:List ByteArray):Bool:=(Zf6 S v).all fun s=>s.2 x
theorem Zqo {n:Nat}{S:List Zhc}(hS:∀s∈S,Zhd n s)(x:List ByteArray):(∀u,0≤u→u≤n→ZoA S u (x.take u)=true)↔∀s∈S,s.2 x=true:=by
 constructor
 ·intro h s hs
  obtain⟨h1,h2,h3⟩:=hS s hs
  have:=h (s.1+1).toNat (Nat.zero_le _) (by omega)
  unfold ZoA at this
  rw[List.all_eq_true] at this
  have:=this s (by unfold Zf6;rw[List.mem_filter];exact⟨hs,decide_eq_true (by omega)⟩)
  rw[h3] at this
  exact this
 ·intro h u _ _
  unfold ZoA
  rw[List.all_eq_true]
  intro s hs
  unfold Zf6 at hs
  rw[List.mem_filter,decide_eq_true_eq] at hs
  obtain⟨h1,h2,h3⟩:=hS s hs.1
  have e:(s.1+1).toNat=u:=by omega
  rw[e] at h3
  rw[h3]
  exact h s hs.1
theorem ZoB (l:List (Int×Value)):∀(j:Nat) (z:Int×Value),l[j]? =some z→(Zfm l)[j*2]? =some (.int .i64 z.1)∧(Zfm l)[j*2+1]? =some z.2:=by
 induction l with
 |nil=>intro j z h;simp at h
 |cons a l ih=>
  intro j z h
  have e:Zfm (a::l)=.int .i64 a.1::a.2::Zfm l:=by simp[Zfm]
  rw[e]
  cases j with
  |zero=>
   simp at h
   subst h
   simp
  |succ j=>
   have:=ih j z (by simpa using h)
   rw[show (j+1)*2=j*2+1+1 by omega]
   simpa using this
theorem ZoC {w:World}{C:Nat→Prop}{B0 pm:Nat}{an:Option Addr}{n cn:Nat}{ts:List JT}{pts:List Nat}{tl:Nat→List (Int×Value)}{S:List Zhc}(h:ZeJ w C B0 pm an n cn (atv ts) pts tl)(hT:ZjF w C B0 n tl S)(hS:∀s∈S,Zhd n s)(hSl:S.length≤1000000)(htr:Zfo w C B0 ts pts)(hl:pts.length=ts.length)(hn:n≤1000000)(htl:ts.length≤1000000)(hok:∀t∈ts,t.Ok n∧t.vars.length≤64∧t.rows.length≤1000000)(hall:∀v,v<n→∃t∈ts,v∈t.vars):ZrB w (fun b=>b<B0) pm n ts pts (ZoA S):=by
 have far:∀W,Zah (fun b=>b<B0) w W→∀b,C b→¬b<B0:=fun W _ b hb q=>by have:=(h.low b hb).1;omega
 obtain⟨vT,t1,_,t3,t4⟩:=h.tries
 obtain⟨aT,cT,e9,_⟩:=Zag t3
 subst e9
 obtain⟨ga,ca,a1,a2⟩:=h.at_
 obtain⟨gt,ct,b1,b2⟩:=h.tests
 obtain⟨fv,f1,_⟩:=a2.each
 obtain⟨fw,g1,_⟩:=b2.each
 have hp:¬pm<B0:=far w (Zah.refl _ _) pm h.cpm
 have hga:¬ga<B0:=far w (Zah.refl _ _) ga a2.cga
 have hgt:¬gt<B0:=far w (Zah.refl _ _) gt b2.cga
 have hfv:∀v,∃b c,v<n→fv v=.slice (some ⟨b,0,none⟩) (atv ts v).length c:=fun v=>by
  by_cases hv:v<n
  ·obtain⟨t,ht,hvt⟩:=hall v hv
   obtain⟨i,hi⟩:=List.mem_iff_getElem?.1 ht
   have hpos:0<(atv ts v).length:=List.length_pos_of_mem ((ZcO ts v i).2 ⟨t,hi,hvt⟩)
   obtain⟨g,c,e,_⟩:=Za0 (f1 v hv).2.2.1 hpos
   exact⟨g,c,fun _=>e⟩
  ·exact⟨0,0,fun q=>absurd q hv⟩
 refine⟨fun t ht=>(hok t ht).1,fun t ht=>(hok t ht).2,hall,⟨hn,htl⟩,hl,⟨an,cn,fun W b=>b.cell hp h.c0⟩,⟨aT,cT,fun W b=>⟨?_,fun i pt hi=>?_,fun i t pt h1 h2=>?_⟩⟩,⟨ga,ca,fun v=>Classical.choose (hfv v),fun v=>Classical.choose (Classical.choose_spec (hfv v)),fun W b=>⟨b.cell hp a1,fun v hv=>?_⟩⟩,⟨gt,ct,fun W b=>⟨b.cell hp b1,fun v hv=>?_⟩⟩⟩
 ·rw[←hl]
  exact b.cell hp t1
 ·have hlt:=(zgs hi).1
  obtain⟨g,c,e,_⟩:=Za0 t3 (by omega)
  cases e
  refine⟨g,0,rfl,?_⟩
  have h4:=t3.cells (g:=g) rfl i (Zi2 pt) (by rw[List.getElem?_map,hi];rfl)
  rw[Addr.add_lit] at h4
  exact b.cell (far W b g (t4 g rfl)) h4
 ·obtain⟨s,d,q1,q2,q3,q4⟩:=htr i t pt h1 h2
  exact q3 W (b.mono fun x _ hx=>.inl (by omega))
 ·have e:=Classical.choose_spec (Classical.choose_spec (hfv v)) hv
  obtain⟨x1,x2,x3,x4⟩:=f1 v hv
  refine⟨by rw[←e];exact b.cell hga x1,fun j c hj=>?_⟩
  rw[e] at x3 x4
  have h4:=x3.cells (g:=Classical.choose (hfv v)) rfl j (ZhF c) (by rw[List.getElem?_map,hj];rfl)
  rw[Addr.add_lit,Nat.zero_add] at h4
  exact b.cell (far W b _ (x4 _ rfl)) h4
 ·obtain⟨x1,x2,x3,x4⟩:=g1 v (by omega)
  obtain⟨a,c,e,_⟩:=Zag x3
  rw[e] at x1 x3
  have hlv:=hT.len v
  have hsl:(Zf6 S v).length≤S.length:=List.length_filter_le _ _
  refine⟨a,(tl v).length,c,by omega,b.cell hgt x1,fun x ar cr hx hxl=>⟨(Zf6 S v).map fun s=>s.2 x,by rw[List.length_map,hlv],fun j q hj=>?_,?_⟩⟩
  ·rw[List.getElem?_map] at hj
   obtain⟨s,hs,rfl⟩:=Option.map_eq_some_iff.1 hj
   have hjl:=(zgs hs).1
   obtain⟨z,hz⟩:∃z,(tl v)[j]? =some z:=⟨_,zge (by omega)⟩
   have x5:=b.own x3 (fun g hg q=>by have:=(x3.lt g hg).1;omega)
   obtain⟨g,cap,e2,_⟩:=Za0 x5 (by omega)
   cases e2
   obtain⟨y1,y2⟩:=ZoB (tl v) j z hz
   have c1:=x5.cells (g:=g) rfl _ _ y1
   have c2:=x5.cells (g:=g) rfl _ _ y2
   rw[Addr.add_lit] at c1 c2
   exact⟨g,0,z.1,z.2,rfl,c1,c2,hT.stat v j z s hz hs W (b.mono fun _ _ hb=>.inl hb) x ar cr hx hxl⟩
  ·rw[List.all_map]
   unfold ZoA
   rw[Bool.eq_iff_iff,List.all_eq_true,List.all_eq_true]
   have key:∀s∈Zf6 S v,s.2 (x.take v)=s.2 x:=fun s hs=>by
    unfold Zf6 at hs
    rw[List.mem_filter,decide_eq_true_eq] at hs
    obtain⟨p1,p2,p3⟩:=hS s hs.1
    have:=p3 x
    rwa [show (s.1+1).toNat=v by omega] at this
   constructor
   ·intro q s hs
    rw[key s hs]
    exact q s hs
   ·intro q s hs
    have:=q s hs
    rw[key s hs] at this
    exact this
