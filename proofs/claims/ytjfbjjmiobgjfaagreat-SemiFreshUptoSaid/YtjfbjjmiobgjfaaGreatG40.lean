/- Base.Names: a map's keys, sorted. -/
import Derived.Test.YtjfbjjmiobgjfaaGreatG5
import Derived.Test.YtjfbjjmiobgjfaaGreatG30
import Derived.Shelf.SlIter.Collect
set_option maxRecDepth 100000
set_option maxHeartbeats 8000000
namespace Go.Proofs.YtjfbjjmiobgjfaaGreat
open ChangeShapes WideShapes ChangeAt RowKit
def Tryz.keysL_ren:Shelf.Ren:=⟨fun|7=>89|10=>123|n=>n,fun|23=>93|26=>9|3=>40|28=>147|0=>0|27=>146|33=>153|4=>4|n=>n,fun|n=>n⟩
open Go.Proofs.Tryz in
theorem Tryz.keysL:SlLaysZ.n7 prog Tryz.keysL_ren:={
 mixed:=by kernel_rfl,f7:=⟨f89.name,by decide,zcg func89⟩,f10:=⟨f123.name,by decide,zcg func123⟩,t0:=underlying0,a0:=isAgg0,z0:=sizeOf0,v0:=zeroValue0,t4:=underlying4,
 a4:=isAgg4,z4:=sizeOf4,v4:=zeroValue4,t23:=underlying93,a23:=isAgg93,z23:=sizeOf93,v23:=zeroValue93,t26:=underlying9,
 a26:=isAgg9,z26:=sizeOf9,v26:=zeroValue9,t27:=underlying146,a27:=isAgg146,z27:=sizeOf146,v27:=zeroValue146,t28:=underlying147,
 a28:=isAgg147,z28:=sizeOf147,v28:=zeroValue147,t33:=underlying153,a33:=isAgg153,z33:=sizeOf153,v33:=zeroValue153}
def Tryz.collL_ren:Shelf.Ren:=⟨fun|8=>121|11=>146|n=>n,fun|26=>9|28=>147|24=>54|0=>0|33=>153|4=>4|n=>n,fun|n=>n⟩
open Go.Proofs.Tryz in
theorem Tryz.collL:SlLaysZ.n8 prog Tryz.collL_ren:={
 mixed:=by kernel_rfl,f8:=⟨f121.name,by decide,zcg func121⟩,f11:=⟨f146.name,by decide,zcg func146⟩,t0:=underlying0,a0:=isAgg0,z0:=sizeOf0,v0:=zeroValue0,t24:=underlying54,
 a24:=isAgg54,z24:=sizeOf54,v24:=zeroValue54,t26:=underlying9,a26:=isAgg9,z26:=sizeOf9,v26:=zeroValue9,t28:=underlying147,
 a28:=isAgg147,z28:=sizeOf147,v28:=zeroValue147,i26:=by kernel_rfl}
def Tryz.sortS_ren:Shelf.Ren:=⟨fun|6=>122|15=>148|14=>147|28=>176|29=>177|20=>168|21=>169|22=>170|23=>171|24=>172|25=>173|26=>174|27=>175|46=>187|47=>188|48=>189|49=>190|50=>191|57=>194|n=>n,fun|22=>54|24=>9|25=>149|3=>3|39=>130|0=>0|53=>182|55=>185|4=>4|46=>243|45=>242|50=>67|5=>5|9=>9|66=>256|70=>260|76=>264|77=>265|n=>n,fun|n=>n⟩
open Go.Proofs.Tryz in
theorem Tryz.sortS:SlLaysF.n6 prog Tryz.sortS_ren:={
 mixed:=by kernel_rfl,f6:=⟨f122.name,by decide,zcg func122⟩,f14:=⟨f147.name,by decide,zcg func147⟩,f15:=zcg func148,f20:=⟨f168.name,by decide,zcg func168⟩,f21:=⟨f169.name,by decide,zcg func169⟩,f22:=⟨f170.name,by decide,zcg func170⟩,f23:=⟨f171.name,by decide,zcg func171⟩,
 f24:=⟨f172.name,by decide,zcg func172⟩,f25:=⟨f173.name,by decide,zcg func173⟩,f26:=⟨f174.name,by decide,zcg func174⟩,f27:=⟨f175.name,by decide,zcg func175⟩,f28:=zcg func176,f29:=zcg func177,f46:=⟨f187.name,by decide,zcg func187⟩,f47:=zcg func188,
 f48:=zcg func189,f49:=⟨f190.name,by decide,zcg func190⟩,f50:=⟨f191.name,by decide,zcg func191⟩,f57:=⟨f194.name,by decide,zcg func194⟩,t0:=underlying0,a0:=isAgg0,z0:=sizeOf0,v0:=zeroValue0,
 t3:=underlying3,a3:=isAgg3,z3:=sizeOf3,v3:=zeroValue3,t4:=underlying4,a4:=isAgg4,z4:=sizeOf4,v4:=zeroValue4,
 t5:=underlying5,a5:=isAgg5,z5:=sizeOf5,v5:=zeroValue5,t9:=underlying9,a9:=isAgg9,z9:=sizeOf9,v9:=zeroValue9,
 t22:=underlying54,a22:=isAgg54,z22:=sizeOf54,v22:=zeroValue54,a24:=isAgg9,z24:=sizeOf9,t25:=underlying149,a25:=isAgg149,
 z25:=sizeOf149,v25:=zeroValue149,t39:=underlying130,a39:=isAgg130,z39:=sizeOf130,v39:=zeroValue130,t45:=underlying242,a45:=isAgg242,
 z45:=sizeOf242,v45:=zeroValue242,t46:=underlying243,a46:=isAgg243,z46:=sizeOf243,v46:=zeroValue243,t50:=underlying67,a50:=isAgg67,
 z50:=sizeOf67,v50:=zeroValue67,t53:=underlying182,a53:=isAgg182,z53:=sizeOf182,v53:=zeroValue182,t55:=underlying185,a55:=isAgg185,
 z55:=sizeOf185,v55:=zeroValue185,t66:=underlying256,a66:=isAgg256,z66:=sizeOf256,v66:=zeroValue256,t70:=underlying260,a70:=isAgg260,
 z70:=sizeOf260,v70:=zeroValue260,t76:=underlying264,a76:=isAgg264,z76:=sizeOf264,v76:=zeroValue264,t77:=underlying265,a77:=isAgg265,
 z77:=sizeOf265,v77:=zeroValue265}
abbrev ofB (x:List UInt8):ByteArray:=⟨x.toArray⟩
theorem ZsF {x y:List UInt8}(h:ofB x=ofB y):x=y:=by
 have:=congrArg (fun b=>b.data.toList) h
 simpa [ofB] using this
theorem Zfw (s:ByteArray):ofB s.data.toList=s:=by
 cases s
 simp[ofB]
def kb (x:MapEntry):ByteArray:=match x.key with
 |.string s=>s
 |_=>⟨#[]⟩
theorem Zeg {α:Type}[DecidableEq α]:∀{l m:List α},l.Nodup→(∀x∈l,x∈m)→l.length≤m.length
 |[],_,_,_=>Nat.zero_le _
 |x::xs,m,h,hs=>by
  obtain⟨h1,h2⟩:=List.nodup_cons.1 h
  have hx:=hs x (by simp)
  have:=Zeg (l:=xs) (m:=m.erase x) h2 (fun y hy=>(List.mem_erase_of_ne (fun e=>h1 (by first|(rw [←e];exact hy)|(rw [e];exact hy)))).2 (hs y (List.mem_cons_of_mem _ hy)))
  rw[List.length_erase_of_mem hx] at this
  have hp:=List.length_pos_of_mem hx
  rw[List.length_cons]
  omega
abbrev noR:Value→Option (DataW Unit×List MemPlace):=fun _=>some (.nil,[])
theorem ZoQ {P:Program}{kt:TypeId}{w:World}{b:Nat}{f:ByteArray→Option Value}{L:List ByteArray}(hk:P.underlying kt=some .string)(h:K.ZhA w b f)(hL:∀k,f k≠none↔k∈L)(hsz:∀k∈L,k.size≤4096)(hn:L.length≤1000000):
  ∃D:DataW Unit,w.ownsMap P kt noR b 1000000 D∧Maps.size D≤1000000∧(strKeys D).Nodup∧∀x,x∈strKeys D↔ofB x∈L:=by
 obtain⟨es,clock,h1,h2,h3,h4⟩:=h
 have hkey:∀x∈es.toList,x.key=.string (kb x)∧kb x∈L:=fun x hx=>by
  obtain⟨s,hs⟩:=h2.1 x hx
  have e:kb x=s:=by unfold kb;rw[hs]
  refine⟨by rw[e];exact hs,?_⟩
  rw[e,←hL,h3]
  exact K.Zgz h2.1 hx hs
 have hrd:∀x∈es.toList,WideElems.rd P kt noR x=some (.string (kb x).data.toList,.nil):=fun x hx=>by
  obtain⟨q1,q2⟩:=hkey x hx
  have hs:=hsz _ q2
  have:keyOf P kt x.key=some (.string (kb x).data.toList):=by
   rw[q1]
   unfold keyOf
   rw[hk]
   simp only
   unfold mapKey
   rw[hk]
   simp only
   rw[if_pos (by unfold maxLen;omega)]
  unfold WideElems.rd
  rw[this]
  rfl
 have hrg:∀x∈es.toList,WideElems.rg P kt noR x=(.string (kb x).data.toList,.nil):=fun x hx=>by
  unfold WideElems.rg
  rw[hrd x hx]
  rfl
 have hnd:(es.toList.map kb).Nodup:=by
  have:=h2.2
  rw[List.Nodup,List.pairwise_map] at this ⊢
  exact this.imp_of_mem fun {a b} ha hb hab e=>hab (by rw[(hkey a ha).1,(hkey b hb).1,e])
 have hlen:es.toList.length≤L.length:=by
  have:=Zeg hnd (m:=L) (fun x hx=>by obtain⟨y,hy,rfl⟩:=List.mem_map.1 hx;exact(hkey y hy).2)
  simpa using this
 have hsize:es.size≤1000000:=by
  have:es.size=es.toList.length:=by simp
  omega
 have hp:=(sorted_perm (es.toList.map (WideElems.rg P kt noR)))
 have hsk:(strKeys (.map ((es.toList.map (WideElems.rg P kt noR)).foldr DataW.insert []):DataW Unit)).Perm (es.toList.map fun x=>(kb x).data.toList):=by
  show (((es.toList.map (WideElems.rg P kt noR)).foldr DataW.insert []).map fun p=>strOf p.1).Perm _
  refine(hp.map _).trans ?_
  rw[List.map_map]
  refine List.Perm.of_eq (List.map_congr_left fun x hx=>?_)
  simp only[Function.comp]
  rw[hrg x hx]
  rfl
 refine⟨_,⟨es,clock,h1,⟨by unfold maxLen;omega,h4,fun x hx=>⟨_,hrd x hx⟩⟩,hsize,rfl⟩,?_,?_,fun x=>?_⟩
 ·show ((es.toList.map (WideElems.rg P kt noR)).foldr DataW.insert []).length≤1000000
  rw[hp.length_eq,List.length_map]
  simpa using hsize
 ·refine hsk.symm.nodup ?_
  have e:(es.toList.map fun x=>(kb x).data.toList)=(es.toList.map kb).map fun s=>s.data.toList:=by rw[List.map_map];rfl
  rw[e,List.Nodup,List.pairwise_map]
  refine hnd.imp fun {a b} hab e=>hab ?_
  rw[←Zfw a,←Zfw b,e]
 ·rw[hsk.mem_iff,List.mem_map]
  constructor
  ·rintro⟨y,hy,rfl⟩
   rw[Zfw]
   exact(hkey y hy).2
  ·intro hx
   have hf:=(hL _).2 hx
   rw[h3] at hf
   obtain⟨v,hv⟩:=Option.ne_none_iff_exists'.1 hf
   obtain⟨y,hy,q⟩:=K.ZgA hv
   refine⟨y,hy,?_⟩
   have:kb y=ofB x:=by unfold kb;rw[q]
   rw[this]
theorem ZjM:∀{l m:List ByteArray},l.Pairwise (fun x y=>ltB x y=true)→m.Pairwise (fun x y=>ltB x y=true)→(∀x,x∈l↔x∈m)→l=m
 |[],[],_,_,_=>rfl
 |[],b::m,_,_,h=>by have:=(h b).2 (by simp);cases this
 |a::l,[],_,_,h=>by have:=(h a).1 (by simp);cases this
 |a::l,b::m,h1,h2,h=>by
  obtain⟨p1,p2⟩:=List.pairwise_cons.1 h1
  obtain⟨q1,q2⟩:=List.pairwise_cons.1 h2
  have e:a=b:=by
   rcases List.mem_cons.1 ((h a).1 (by simp)) with e|e
   ·exact e
   ·rcases List.mem_cons.1 ((h b).2 (by simp)) with e2|e2
    ·exact e2.symm
    ·exact absurd (Zbp (q1 a e) (p1 b e2)) (Zbb b)
  subst e
  refine congrArg _ (ZjM p2 q2 fun x=>?_)
  have:=h x
  constructor
  ·intro hx
   rcases List.mem_cons.1 (this.1 (List.mem_cons_of_mem _ hx)) with e|e
   ·subst e;exact absurd (p1 x hx) (Zbb x)
   ·exact e
  ·intro hx
   rcases List.mem_cons.1 (this.2 (List.mem_cons_of_mem _ hx)) with e|e
   ·subst e;exact absurd (q1 x hx) (Zbb x)
   ·exact e
theorem ZsG (lo:Nat)(a:Option Addr)(n c:Nat)(ss:List ByteArray)(w:World)(hown:w.ownsRow lo 9 1 (.slice a n c) n (ss.map Value.string))(hnd:ss.Nodup)(hn:n≤1000000):
  Calls Tryz.prog 122 #[.slice a n c,.func (.func 90) #[] #[]] w fun e w'=>e=.returned (.tuple #[])∧∃ts:List ByteArray,w'.ownsRow lo 9 1 (.slice a n c) n (ts.map Value.string)∧ts.Perm ss∧ts.Pairwise (fun x y=>ltB x y=true)∧Zah (fun b=>(Value.slice a n c).ownBlock=some b) w w':=by
 have hsl:ss.length=n:=by have:=hown.1;rw[List.length_map] at this;omega
 by_cases h0:n=0
 ·subst h0
  have hcon:=AnyF.slices_SortFunc_none (P:=Tryz.prog) {Tryz.sortS with} a c (.func (.func 90) #[] #[]) w
  refine Calls.mono hcon ?_
  rintro e w' ⟨rfl,rfl⟩
  have hw0:ss=[]:=List.eq_nil_of_length_eq_zero hsl
  subst hw0
  exact⟨rfl,[],hown,List.Perm.refl _,List.Pairwise.nil,Zah.refl _ _⟩
 ·obtain⟨g,c',e0,_⟩:=Za0 hown (by omega)
  cases e0
  obtain⟨cur,hcur,hcs,hct⟩:∃cur:Array Value,w.heap[g]? =some (.cells cur 9 (0,0))∧n≤cur.size∧cur.toList.take n=ss.map Value.string:=by
   rcases hown.2 with⟨h1,_⟩|⟨g',c',cur,h1,_,hg,hnc,_,hs,ht⟩
   ·cases h1
   ·cases h1
    exact⟨cur,hg,by omega,by rw[Nat.mul_one] at ht;exact ht⟩
  obtain⟨d,hd⟩:∃d:Array ByteArray,d=ss.toArray:=⟨_,rfl⟩
  have hds:d.size=n:=by rw[hd];simpa using hsl
  have hdat:∀j,j<n→ss[j]? =some d[j]!:=fun j h=>by
   rw[getElem!_pos d j (by omega)]
   subst hd
   simp
  have hH:Sort.Holds Value.string w g 0 d:=fun j hj=>by
   rw[hds] at hj
   refine⟨?_,by simp[World.frozen?,hcur]⟩
   have:=hown.cells (g:=g) rfl j (Value.string d[j]!) (by rw[List.getElem?_map,hdat j hj];rfl)
   rw[Addr.add_lit] at this
   exact this
  have hO:Sort.SWO (ltOf ZfI):=by
   refine⟨fun x=>?_,fun x y z h1 h2=>?_,fun x y z h1 h2=>?_⟩
   ·simp only[ltOf,decide_eq_false_iff_not,Zde]
    exact Zbb x
   ·simp only[ltOf,decide_eq_true_eq,Zde] at*
    exact Zbp h1 h2
   ·simp only[ltOf,decide_eq_false_iff_not,Zde] at*
    intro h
    rcases Zfl x y with q|q|q
    ·exact h1 q
    ·rw[q] at h;exact h2 h
    ·exact h2 (Zbp q h)
  have h1c:∀x:ByteArray,(Value.string x).oneCell'=true:=fun x=>rfl
  have hcmp:CmpReads Tryz.prog 90 #[] Value.string ZfI g 0 d.size w:=fun m os dk _ x y=>(ZrN x y _).mono fun e w' ⟨h1,h2⟩=>⟨h1,0,h2⟩
  have eg:∀args w,(callFunc 90 args).run Tryz.prog w=.ok (.enter 90 args) w:=enters_of Tryz.func90 (by kernel_rfl) rfl
  have hcon:=Any.slices_SortFunc Tryz.sortS Value.string h1c ZfI hO 90 #[] g 0 c d w eg hcmp.lays hH (zag hcur).1 (by omega)
  rw[hds] at hcon
  refine Calls.mono hcon ?_
  rintro e w' ⟨rfl,d',m,os,hp,hs,rfl⟩
  obtain⟨k1,k2⟩:=Zgc Value.string d' m os hcur
  have hd's:d'.size=n:=by rw[hp.1,hds]
  have hB:Zah (fun b=>(Value.slice (some ⟨g,0,none⟩) n c).ownBlock=some b) w (sortWorld Value.string w g 0 m d' os):=k2.mono fun b _ e=>by simp[Value.ownBlock,e]
  have hperm:d'.toList.Perm ss:=by
   have hpp:=hp.2.2
   have x1:d'.extract 0 n=d':=ZdT hd's
   have x2:d.extract 0 n=d:=ZdT hds
   rw[x1,x2] at hpp
   rw[hd] at hpp
   simpa using hpp
  refine⟨rfl,d'.toList,?_,hperm,?_,hB⟩
  ·refine⟨by simp[hd's],?_⟩
   rcases hown.2 with⟨h1,_⟩|⟨g',c',cur',h1,hb',hg',hnc,hcm,hs',ht⟩
   ·cases h1
   ·cases h1
    rw[hcur] at hg'
    cases hg'
    exact .inr ⟨g,c,Sort.putCells Value.string 0 d' cur,rfl,hb',k1,hnc,hcm,by simp[Sort.putCells,hs'],by rw[Nat.mul_one,←ZfE Value.string d' cur (by omega),hd's]⟩
  ·have hnd':=hperm.symm.nodup hnd
   refine List.pairwise_iff_getElem.2 fun i j hi hj hij=>?_
   have hi':i<d'.size:=by simpa using hi
   have hj':j<d'.size:=by simpa using hj
   have:=hs i j (Nat.zero_le _) hij (by omega)
   rw[getElem!_pos d' i hi',getElem!_pos d' j hj'] at this
   simp only[ltOf,decide_eq_false_iff_not,Zde] at this
   have hne:=List.pairwise_iff_getElem.1 hnd' i j hi hj hij
   simp only[Array.getElem_toList] at hne ⊢
   rcases Zfl d'[i] d'[j] with q|q|q
   ·exact q
   ·exact absurd q hne
   ·exact absurd q this
theorem ZsH (mb Bm:Nat)(L:List ByteArray)(f:ByteArray→Option Value)(w:World)(h:K.ZhA w mb f)(hB:w.cell? ⟨Bm,0,none⟩=some (.map (some mb)))(hL:∀k,f k≠none↔k∈L)(hsz:∀k∈L,k.size≤4096)(hn:L.length≤1000000):
  Calls Tryz.prog 121 #[.func (.func 123) #[] #[.pointer (some ⟨Bm,0,none⟩)]] w fun e w'=>∃(v:Value) (ns:List ByteArray),e=.returned v∧ns.Nodup∧(∀k,k∈ns↔k∈L)∧w'.ownsRow w.heap.size 9 1 v ns.length (ns.map Value.string)∧Ext w w':=by
 obtain⟨D,d1,d2,d3,d4⟩:=ZoQ (P:=Tryz.prog) (kt:=9) Tryz.underlying9 h hL hsz hn
 have hseq:SeqGives Fence.wide 2 Tryz.prog 123 #[.pointer (some ⟨Bm,0,none⟩)] encStr (fun ss=>ss.Perm (strKeys D)) (Maps.size D) w:=
  AnyZ.keys_gives (ρ:=Tryz.keysL_ren) {Tryz.keysL with} Fence.wide 2 trivial rfl (by omega) Bm mb 1000000 D w (World.block_lt_of_cell? w ⟨Bm,0,none⟩ hB) hB d1
 have cC:=AnyZ.collect_in Tryz.collL Fence.wide 4 trivial trivial rfl (by omega) 123 #[.pointer (some ⟨Bm,0,none⟩)] trivial (enters_of Tryz.func123 (by kernel_rfl) rfl) _ _ (by unfold maxLen;omega) (by omega) w hseq
 refine(callsIn_wide.1 cC).mono ?_
 rintro e w' ⟨v,ss,rfl,hp,ho,_,hb⟩
 refine⟨v,ss.map ofB,rfl,?_,fun k=>?_,?_,hb⟩
 ·have:=hp.symm.nodup d3
  rw[List.Nodup,List.pairwise_map]
  exact this.imp fun {a b} hab e=>hab (ZsF e)
 ·rw[List.mem_map]
  constructor
  ·rintro⟨x,hx,rfl⟩
   exact(d4 x).1 (hp.mem_iff.1 hx)
  ·intro hk
   refine⟨k.data.toList,hp.mem_iff.2 ((d4 _).2 (by rw[Zfw];exact hk)),Zfw k⟩
 ·rw[List.length_map,List.map_map]
  exact ho
theorem ZsI (mb:Nat)(w:World):Calls Tryz.prog 89 #[.map (some mb)] w fun e w'=>e=.returned (.func (.func 123) #[] #[.pointer (some ⟨w.heap.size,0,none⟩)])∧w'=w.alloc (.cells #[.map (some mb)] 93):=
 callsIn_wide.1 (AnyZ.keys_in Tryz.keysL Fence.wide 5 trivial rfl (some mb) w)
theorem ZoR (mb Bm:Nat)(L:List ByteArray)(f:ByteArray→Option Value)(w:World)(h:K.ZhA w mb f)(hB:w.cell? ⟨Bm,0,none⟩=some (.map (some mb)))(hL:∀k,f k≠none↔k∈L)(hsz:∀k∈L,k.size≤4096)(hn:L.length≤1000000)(hup:L.Pairwise (fun x y=>ltB x y=true)):
  Calls Tryz.prog 88 #[.func (.func 123) #[] #[.pointer (some ⟨Bm,0,none⟩)],.func (.func 90) #[] #[]] w fun e w'=>∃v:Value,e=.returned v∧w'.ownsRow w.heap.size 9 1 v L.length (L.map Value.string)∧Ext w w':=by
 have CC:=zh (ZsH mb Bm L f w h hB hL hsz hn)
 have HU:=zh hup
 clear h hB hL hsz hup
 have SS:Hid (∀(W W':World) (a:Option Addr) (n c:Nat) (ns:List ByteArray),W.ownsRow w.heap.size 9 1 (.slice a n c) n (ns.map Value.string)→ns.length=n→ns.Nodup→(∀k,k∈ns↔k∈L)→Ext w W→Calls Tryz.prog 122 #[.slice a n c,.func (.func 90) #[] #[]] W fun e w'=>e=.returned (.tuple #[])∧w'.ownsRow w.heap.size 9 1 (.slice a n c) L.length (L.map Value.string)∧Ext w w'):=fun W W' a n c ns ho hl hnd hm hE=>by
  have hnl:ns.length=L.length:=Nat.le_antisymm (Zeg hnd fun x hx=>(hm x).1 hx) (Zeg (HU.out.imp fun {a b} hab e=>by rw[e] at hab;exact Zbb _ hab) fun x hx=>(hm x).2 hx)
  refine(ZsG w.heap.size a n c ns W ho hnd (by omega)).mono ?_
  rintro e w' ⟨rfl,ts,q1,q2,q3,q4⟩
  obtain rfl:ts=L:=ZjM q3 HU.out fun x=>by rw[q2.mem_iff,hm]
  refine⟨rfl,by rw[←hnl,hl];exact q1,?_⟩
  exact Zaw hE q4 fun b hb e=>by
   have:=(ho.lt b e).1
   omega
 go_enter Tryz.func88,Tryz.ntmps88
 go_wp2_with (first
  |(go_at_call 121;(with_reducible refine CC.out.mono ?_);rintro e w1 ⟨v1,ns,rfl,n1,m1,o1,e1⟩;obtain⟨a1,c1,rfl,_⟩:=Zag o1)
  |(go_at_call 122;(with_reducible refine(SS.out _ w _ _ _ ns o1 rfl n1 m1 e1).mono ?_);rintro e w2 ⟨rfl,o2,e2⟩))
 go_returns
 exact⟨_,rfl,o2,e2⟩
theorem ZoS (lo bb:Nat)(f:ZaT)(L:List ByteArray)(w:World)(h:Zbo w lo bb f)(hL:∀k,f k≠none↔k∈L)(hsz:∀k∈L,k.size≤4096)(hn:L.length≤1000000)(hup:L.Pairwise (fun x y=>ltB x y=true)):
  Calls Tryz.prog 40 #[.pointer (some ⟨bb,0,none⟩)] w fun e w'=>∃v:Value,e=.returned v∧w'.ownsRow w.heap.size 9 1 v L.length (L.map Value.string)∧Ext w w':=by
 obtain⟨mb,h1,h2,h3⟩:=h.m
 have KM:=zh (ZsI mb)
 have hL':∀k,((f k).map fun x=>x.1).map (fun pb=>Value.pointer (some ⟨pb,0,none⟩))≠none↔k∈L:=fun k=>by
  rw[←hL k]
  cases f k <;> simp
 have SO:Hid (Calls Tryz.prog 88 #[.func (.func 123) #[] #[.pointer (some ⟨w.heap.size,0,none⟩)],.func (.func 90) #[] #[]] (w.alloc (.cells #[.map (some mb)] 93)) fun e w'=>∃v:Value,e=.returned v∧w'.ownsRow w.heap.size 9 1 v L.length (L.map Value.string)∧Ext w w'):=by
  refine(ZoR mb w.heap.size L _ _ (h3.ext (Zab zbr _)) (by go_simp) hL' hsz hn hup).mono ?_
  rintro e w' ⟨v,rfl,o,x⟩
  exact⟨v,rfl,Zao o (by simp),Zaa (Zab zbr _) x⟩
 clear h h3 hL hL' hsz hup
 go_enter Tryz.func40,Tryz.ntmps40
 go_wp2_with (first
  |(go_at_call 89;(with_reducible refine(KM.out _).mono ?_);rintro e w1 ⟨rfl,rfl⟩)
  |(go_at_call 88;(with_reducible refine SO.out.mono ?_);rintro e w2 ⟨v2,rfl,o2,e2⟩))
 go_returns
 exact⟨_,rfl,o2,e2⟩
open K (ZaG Zda ZaQ Zaq Zbl ZaR Zbw Zcm)
def Znd (t:ZaG):Bool:=decide ((4:Int)≤t.kind)&&decide (t.kind≤7)
theorem Zu4 (t:ZaG)(w:World):Calls Tryz.prog 54 #[Zd8 t] w fun e w'=>e=.returned (.bool (Znd t))∧Ext w w':=by
 obtain⟨b1,e1⟩:∃b,decide ((4:Int)≤t.kind)=b:=⟨_,rfl⟩
 obtain⟨b2,e2⟩:∃b,decide (t.kind≤7)=b:=⟨_,rfl⟩
 have fin:Hid (Znd t=(b1&&b2)):=by
  show _=_
  subst e1 e2
  rfl
 cases b1 <;> cases b2
 all_goals
  go_enter Tryz.func54,Tryz.ntmps54
  go_wp2
  go_ret
  refine⟨ZaS ?_,Zab zbr _⟩
  rw[fin.out]
  rfl
theorem ZsJ (ts:List ZaG)(a:Option Addr)(n cap:Nat)(w:World)(ht:Zaq w a n ts):
  Calls Tryz.prog 53 #[.slice a n cap,.func (.func 54) #[] #[]] w (Ziv (ts.any Znd) w):=by
 have hn:=ht.1
 have HL:=zh ht.2.1
 have HT:=zh ht
 clear ht
 go_enter Tryz.func53,Tryz.ntmps53
 go_wp2
 go_loopw [8] (fun i wr=>ZnG Znd ts n w i wr) (fun i _=>n-(intOf i).toNat)
 case atStart=>exact⟨0,by omega,rfl,Below.refl _ _,by simp⟩
 case round=>
  obtain⟨k,hk,rfl,hb,hq⟩:=hrel
  have HQ:=zh hq
  clear hq
  by_cases hlt:k<n
  ·obtain⟨t,bt,off,hx,rfl,hc1,hc2,hc3⟩:=(HT.out.keep hb).2.at hlt
   have HX:=zh (Zbn hx)
   clear hx
   go_wp2_with (go_at_call 54;(with_reducible refine(Zu4 t _).mono ?_);rintro e w2 ⟨rfl,hb2⟩)
   ·go_ret
    refine⟨_,rfl,?_,Zaa hb hb2⟩
    rw[HQ.out,HX.out]
    simp_all
   ·go_roundw
    case rel=>exact⟨k+1,by omega,by go_num,Zaa hb hb2,by rw[HQ.out,HX.out];simp_all⟩
    case measure=>simp[intOf];omega
  ·go_wp2
   go_ret
   refine⟨_,rfl,?_,hb⟩
   rw[HQ.out,List.drop_of_length_le (by have:=HL.out;omega)]
   rfl
theorem ZoT (a:Zda)(at_:Option Addr)(nt ct:Nat)(w:World)(h:Zaq w at_ nt a.terms):
  Calls Tryz.prog 22 #[.agg #[.string a.pred,.slice at_ nt ct]] w fun e w'=>(∃i:Int,e=.returned (.tuple #[.int .i64 i,.bool (a.terms.any Znd)]))∧Ext w w':=by
 have IX:Hid (∀W,Ext w W→Calls Tryz.prog 53 #[.slice at_ nt ct,.func (.func 54) #[] #[]] W (Ziv (a.terms.any Znd) W)):=fun W hW=>ZsJ a.terms at_ nt ct W (h.keep hW)
 have E0:Hid (∀o,Ext w (w.alloc o)):=fun o=>Zab zbr o
 generalize a.terms.any Znd=B at IX ⊢
 clear h
 go_enter Tryz.func22,Tryz.ntmps22
 go_wp2_with (go_at_call 53;(with_reducible refine(IX.out _ (E0.out _)).mono ?_);rintro e w2 ⟨i,rfl,hi,hb2⟩;have HI:=zh hi;clear hi)
 go_returns
 obtain rfl:decide (0≤i)=B:=HI.out
 exact⟨⟨_,rfl⟩,Zaa (E0.out _) hb2⟩
theorem ZsK (w:World):Calls Tryz.prog 111 #[.pointer none] w fun e w'=>e=.returned (.int .i64 0)∧w'=w:=by
 go_enter Tryz.func111,Tryz.ntmps111
 go_wp2
 go_returns
 exact⟨rfl,rfl⟩
theorem ZsL (w:World):Calls Tryz.prog 69 #[.pointer none] w fun e w'=>e=.returned (.int .i64 0)∧w'=w:=by
 go_enter Tryz.func69,Tryz.ntmps69
 go_wp2_with (first
  |(go_at_call 41;(with_reducible refine(Zoc _).mono ?_);rintro e w1 ⟨rfl,hw1⟩;obtain rfl:=hw1.symm)
  |(go_at_call 111;(with_reducible refine(ZsK _).mono ?_);rintro e w1 ⟨rfl,hw1⟩;obtain rfl:=hw1.symm))
 go_returns
 first|trivial|exact⟨rfl,rfl⟩
theorem ZsM (v:Value)(w:World):Calls Tryz.prog 112 #[.pointer none,v] w fun e w'=>e=.returned (.bool false)∧w'=w:=by
 go_enter Tryz.func112,Tryz.ntmps112
 go_wp2
 go_returns
 exact⟨rfl,rfl⟩
theorem ZsN (v:Value)(w:World):Calls Tryz.prog 70 #[.pointer none,v] w fun e w'=>e=.returned (.bool false)∧w'=w:=by
 go_enter Tryz.func70,Tryz.ntmps70
 go_wp2_with (first
  |(go_at_call 41;(with_reducible refine(Zoc _).mono ?_);rintro e w1 ⟨rfl,hw1⟩;obtain rfl:=hw1.symm)
  |(go_at_call 112;(with_reducible refine(ZsM _ _).mono ?_);rintro e w1 ⟨rfl,hw1⟩;obtain rfl:=hw1.symm))
 go_returns
 first|trivial|exact⟨rfl,rfl⟩
theorem ZsO (lo bb:Nat)(f:ZaT)(k:ByteArray)(w:World)(h:Zbo w lo bb f):
  Calls Tryz.prog 31 #[.pointer (some ⟨bb,0,none⟩),.string k] w fun e w'=>e=.returned (.int .i64 ((Zan f k).length:Nat))∧w'=w:=by
 have OF:=zh (ZuJ lo bb f k w h)
 have LN:Hid (Calls Tryz.prog 69 #[Zmw (f k)] w fun e w'=>e=.returned (.int .i64 ((Zan f k).length:Nat))∧w'=w):=by
  show Calls _ _ _ _ _
  unfold Zan
  cases hf:f k with
  |none=>exact ZsL w
  |some x=>exact Ze3 _ _ _ _ _ (h.r.rel k x hf).2.1
 generalize Zmw (f k)=pv at OF LN
 generalize Zan f k=rs at LN ⊢
 clear h
 go_enter Tryz.func31,Tryz.ntmps31
 go_wp2_with (first
  |(go_at_call 73;(with_reducible refine OF.out.mono ?_);rintro e w1 ⟨rfl,hw1⟩;obtain rfl:=hw1.symm)
  |(go_at_call 69;(with_reducible refine LN.out.mono ?_);rintro e w1 ⟨rfl,hw1⟩;obtain rfl:=hw1.symm))
 go_returns
 first|trivial|exact⟨rfl,rfl⟩
theorem Zun (lo bb:Nat)(f:ZaT)(k:ByteArray)(t:List ByteArray)(ab:Option Addr)(m cb:Nat)(w:World)(h:Zbo w lo bb f)(hb:Zai w ab m t):
  Calls Tryz.prog 62 #[.pointer (some ⟨bb,0,none⟩),.string k,.slice ab m cb] w fun e w'=>e=.returned (.bool (ZaX (Zan f k) t))∧w'=w:=by
 have OF:=zh (ZuJ lo bb f k w h)
 have HS:Hid (Calls Tryz.prog 70 #[Zmw (f k),.slice ab m cb] w fun e w'=>e=.returned (.bool (ZaX (Zan f k) t))∧w'=w):=by
  show Calls _ _ _ _ _
  unfold Zan
  cases hf:f k with
  |none=>
   refine(ZsN _ w).mono ?_
   rintro e w' ⟨rfl,rfl⟩
   exact⟨by simp[ZaX,ZdK],rfl⟩
  |some x=>
   obtain⟨_,q1,_,q2⟩:=h.r.rel k x hf
   exact ZhO _ x.1 x.2.1 x.2.2 t ab m cb w q1 q2.up (Nat.le_trans q2.few (by decide)) hb
 generalize Zmw (f k)=pv at OF HS
 generalize ZaX (Zan f k) t=B at HS ⊢
 clear h hb
 go_enter Tryz.func62,Tryz.ntmps62
 go_wp2_with (first
  |(go_at_call 73;(with_reducible refine OF.out.mono ?_);rintro e w1 ⟨rfl,hw1⟩;obtain rfl:=hw1.symm)
  |(go_at_call 70;(with_reducible refine HS.out.mono ?_);rintro e w1 ⟨rfl,hw1⟩;obtain rfl:=hw1.symm))
 go_returns
 first|trivial|exact⟨rfl,rfl⟩
open ChangeShapes WideShapes ChangeAt RowKit Go.Shelf
attribute [local go_sem] Oper.semAt_some
theorem Zbo.butF {w w':World}{S:Nat→Prop}{lo bb:Nat}{f:ZaT}(h:Zbo w lo bb f)(e:Zah S w w')(hs:∀b,S b→¬Zb6 w bb f b)(ht:∀b,S b→¬Ty w b 9):Zbo w' lo bb f∧∀b,Zb6 w' bb f b→Zb6 w bb f b:=by
 have hbb:¬S bb:=fun q=>hs _ q (.inl rfl)
 have hx:∀k x,f k=some x→¬S x.1:=fun k x hk q=>hs _ q (.inr (.inr ⟨k,x,hk,.inl rfl⟩))
 have hg:∀k x,f k=some x→∀g,ZaJ w x.1=some g→¬S g:=fun k x hk g hg q=>hs _ q (.inr (.inr ⟨k,x,hk,.inr hg⟩))
 have hi:∀k x,f k=some x→Zay w' (x.1+1) x.1 x.2.1 x.2.2∧ZaJ w' x.1=ZaJ w x.1:=fun k x hk=>(h.r.rel k x hk).2.1.but e (hx k x hk) (hg k x hk) ht
 obtain⟨mb,m1,m2,m3⟩:=h.m
 have hmb:¬S mb:=fun q=>hs _ q (.inr (.inl m2))
 obtain⟨n,hn⟩:=h.r.n
 have c0:=e.cell hbb m2
 refine⟨⟨⟨h.r.low,h.r.ty.but e hbb,⟨n,e.cell hbb hn⟩,ZaE e hbb h.r.ty.lt h.r.free,fun k x hk=>?_,fun k k' x x' h1 h2 hne=>?_⟩,⟨mb,m1,c0,Zir m3 e hmb⟩⟩,fun b hb=>?_⟩
 ·obtain⟨q1,_,q3,q4⟩:=h.r.rel k x hk
  exact⟨q1,(hi k x hk).1,q3.but e (hx k x hk),q4⟩
 ·rw[(hi k x h1).2,(hi k' x' h2).2]
  exact h.r.apart k k' x x' h1 h2 hne
 ·rcases hb with hb|hb|⟨k,x,hk,hb⟩
  ·exact .inl hb
  ·rw[c0] at hb
   exact .inr (.inl (m2.trans hb))
  ·rw[(hi k x hk).2] at hb
   exact .inr (.inr ⟨k,x,hk,hb⟩)
def Zd0 (B:Nat)(ds:List Deferred)(w:World):Prop:=(∀d∈ds,∃D,d={target:=.collected D,args:=#[]}∧B≤D∧w.heap[D]? =some (.deferred (some [])))∧ds.Nodup
theorem Zd0.nil (B:Nat)(w:World):Zd0 B [] w:=⟨by simp,List.nodup_nil⟩
theorem Zgo {F:Fence}{n:Nat}{P:Program}{fn:Func}{tmps:Array Value}{R:Ending→World→Prop}{B:Nat}:∀(ds:List Deferred) (w:World),Zd0 B ds w→(∀w',Zah (fun b=>B≤b∧∃q,w.heap[b]? =some (.deferred q)) w w'→LeavesInM F n P fn tmps R [] .returning w')→LeavesInM F n P fn tmps R ds .returning w
 |[],w,_,h=>h w (Zah.refl _ _)
 |d::ds,w,hm,h=>by
  obtain⟨D,rfl,hB,hD⟩:=hm.1 d (by simp)
  obtain⟨hn1,hn2⟩:=List.nodup_cons.1 hm.2
  have hbut:Zah (fun b=>B≤b∧∃q,w.heap[b]? =some (.deferred q)) w (w.putObj D (.deferred none)):=Zah.putObj w _ ⟨hB,_,hD⟩
  have hm':Zd0 B ds (w.putObj D (.deferred none)):=by
   refine⟨fun d hd=>?_,hn2⟩
   obtain⟨D',e,hB',hD'⟩:=hm.1 d (List.mem_cons_of_mem _ hd)
   refine⟨D',e,hB',(World.putObj_heap_other fun q=>hn1 ?_).trans hD'⟩
   rw[←q,←e]
   exact hd
  refine⟨by simp,.inl ⟨D,_,rfl,run_takeDeferred hD,Zgo ds _ hm' fun w' (hw':Zah _ _ _)=>h w' ?_⟩⟩
  refine hbut.trans (hw'.mono fun b hb hq=>⟨hq.1,?_⟩)
  obtain⟨q,hq⟩:=hq.2
  by_cases e:b=D
  ·exact⟨_,by rw[e];exact hD⟩
  ·exact⟨q,(World.putObj_heap_other e).symm.trans hq⟩
theorem Zd0.but {B:Nat}{ds:List Deferred}{w w':World}{S:Nat→Prop}(h:Zd0 B ds w)(e:Zah S w w')(hs:∀b q,w.heap[b]? =some (.deferred q)→{target:=.collected b,args:=#[]}∈ds→¬S b):Zd0 B ds w':=by
 refine⟨fun d hd=>?_,h.2⟩
 obtain⟨D,rfl,hB,hD⟩:=h.1 d hd
 exact⟨D,rfl,hB,(e.block D (zag hD).1 (hs D _ hD hd)).trans hD⟩
theorem Zd0.ext {B:Nat}{ds:List Deferred}{w w':World}(h:Zd0 B ds w)(e:Ext w w'):Zd0 B ds w':=by
 refine⟨fun d hd=>?_,h.2⟩
 obtain⟨D,rfl,hB,hD⟩:=h.1 d hd
 exact⟨D,rfl,hB,(e.block D (zag hD).1).trans hD⟩
theorem Zd0.lt {B:Nat}{ds:List Deferred}{w:World}(h:Zd0 B ds w){D:Nat}(hd:{target:=.collected D,args:=#[]}∈ds):D<w.heap.size:=by
 obtain⟨D',e,_,hD⟩:=h.1 _ hd
 cases e
 exact(zag hD).1
theorem Zd0.push {B:Nat}{ds:List Deferred}{w:World}(h:Zd0 B ds w){D:Nat}(hB:B≤D)(hD:w.heap[D]? =some (.deferred (some [])))(hn:{target:=.collected D,args:=#[]}∉ds):Zd0 B ({target:=.collected D,args:=#[]}::ds) w:=
 ⟨fun d hd=>(List.mem_cons.1 hd).elim (fun e=>⟨D,e,hB,hD⟩) (h.1 d),List.nodup_cons.2 ⟨hn,h.2⟩⟩
structure ZbD (w:World)(p2 p5 po mb b1 lo:Nat)(fa fl:ZaT)(seen:ByteArray→List (List ByteArray))(T:Nat)(W:World)(f:ZaT):Prop where
 ext:Ext w W
 low:w.heap.size≤lo
 base:Zbo W lo po f
 map0:W.cell? ⟨po,0,none⟩=some (.map (some mb))
 cnt:∃N:Int,W.cell? ⟨po,1,none⟩=some (.int .i64 N)∧0≤N∧N≤(T:Int)
 mem:∀k q,q∈Zan f k↔q∈seen k∧q∈Zan fa k
 ari:∀k x,f k=some x→∃y,fl k=some y∧x.2.1=y.2.1
 few:∀k,(Zan f k).length≤T
 c2:W.cell? ⟨p2,0,none⟩=some (.pointer (some ⟨b1,0,none⟩))
 t2:Ty W p2 35
 c5:W.cell? ⟨p5,0,none⟩=some (.pointer (some ⟨po,0,none⟩))
 t5:Ty W p5 35
theorem ZbD.later {w:World}{p2 p5 po mb b1 lo:Nat}{fa fl:ZaT}{seen:ByteArray→List (List ByteArray)}{T:Nat}{W W':World}{f:ZaT}(h:ZbD w p2 p5 po mb b1 lo fa fl seen T W f)(e:Ext W W'):ZbD w p2 p5 po mb b1 lo fa fl seen T W' f:=by
 obtain⟨N,n1,n2⟩:=h.cnt
 exact⟨Zaa h.ext e,h.low,h.base.ext e,Zac e h.map0,⟨N,Zac e n1,n2⟩,h.mem,h.ari,h.few,Zac e h.c2,h.t2.ext e,Zac e h.c5,h.t5.ext e⟩
theorem ZbD.but {w:World}{p2 p5 po mb b1 lo:Nat}{fa fl:ZaT}{seen:ByteArray→List (List ByteArray)}{T:Nat}{W W':World}{f:ZaT}{S:Nat→Prop}(h:ZbD w p2 p5 po mb b1 lo fa fl seen T W f)(e:Zah S W W')(hl:∀b,S b→w.heap.size≤b)(hs:∀b,S b→b≠mb∧∀t,¬Ty W b t):ZbD w p2 p5 po mb b1 lo fa fl seen T W' f:=by
 obtain⟨N,n1,n2⟩:=h.cnt
 have nt:∀{b t},Ty W b t→¬S b:=fun ht hb=>(hs _ hb).2 _ ht
 have q:=h.base.butF e (fun b hb hq=>by
  rcases hq with rfl|hq|⟨k,x,hx,rfl|hq⟩
  ·exact nt h.base.r.ty hb
  ·rw[h.map0] at hq
   cases hq
   exact(hs _ hb).1 rfl
  ·exact nt (h.base.r.rel k x hx).2.2.1 hb
  ·exact nt ((h.base.r.rel k x hx).2.1.item_ty hq).1 hb) (fun b hb=>(hs b hb).2 _)
 exact⟨Zaw h.ext e (fun b hb hq=>by have:=hl b hq;omega),h.low,q.1,e.cell (nt h.base.r.ty) h.map0,⟨N,e.cell (nt h.base.r.ty) n1,n2⟩,h.mem,h.ari,h.few,e.cell (nt h.t2) h.c2,h.t2.but e (nt h.t2),e.cell (nt h.t5) h.c5,h.t5.but e (nt h.t5)⟩
theorem ZbD.bl {w:World}{p2 p5 po mb b1 lo:Nat}{fa fl:ZaT}{seen:ByteArray→List (List ByteArray)}{T:Nat}{W:World}{f:ZaT}(h:ZbD w p2 p5 po mb b1 lo fa fl seen T W f){b:Nat}(hb:Zb6 W po f b):w.heap.size≤b∧(b=mb∨Ty W b 95∨Ty W b 100∨Ty W b 54):=by
 refine⟨Nat.le_trans h.low (h.base.bl hb).1,?_⟩
 rcases hb with rfl|hq|⟨k,x,hx,rfl|hq⟩
 ·exact .inr (.inl h.base.r.ty)
 ·rw[h.map0] at hq
  cases hq
  exact .inl rfl
 ·exact .inr (.inr (.inl (h.base.r.rel k x hx).2.2.1))
 ·exact .inr (.inr (.inr ((h.base.r.rel k x hx).2.1.item_ty hq).1))
theorem ZbD.mbTy {w:World}{p2 p5 po mb b1 lo:Nat}{fa fl:ZaT}{seen:ByteArray→List (List ByteArray)}{T:Nat}{W:World}{f:ZaT}(h:ZbD w p2 p5 po mb b1 lo fa fl seen T W f){t:TypeId}:¬Ty W mb t:=by
 obtain⟨mb',_,q1,q2⟩:=h.base.m
 rw[h.map0] at q1
 cases q1
 exact Zis q2
theorem ZbD.mbMap {w:World}{p2 p5 po mb b1 lo:Nat}{fa fl:ZaT}{seen:ByteArray→List (List ByteArray)}{T:Nat}{W:World}{f:ZaT}(h:ZbD w p2 p5 po mb b1 lo fa fl seen T W f):∃es c,W.heap[mb]? =some (.map es c):=by
 obtain⟨mb',_,q1,es,c,q2,_⟩:=h.base.m
 rw[h.map0] at q1
 cases q1
 exact⟨es,c,q2⟩
theorem ZbD.blObj {w:World}{p2 p5 po mb b1 lo:Nat}{fa fl:ZaT}{seen:ByteArray→List (List ByteArray)}{T:Nat}{W:World}{f:ZaT}(h:ZbD w p2 p5 po mb b1 lo fa fl seen T W f){b:Nat}{o:Obj}(hb:Zb6 W po f b)(ho:W.heap[b]? =some o):(b=mb∧∃es c,o=.map es c)∨o.isCells=true:=by
 rcases (h.bl hb).2 with rfl|⟨cs,x,q⟩|⟨cs,x,q⟩|⟨cs,x,q⟩
 ·obtain⟨es,c,q⟩:=h.mbMap
  rw[q] at ho
  cases ho
  exact .inl ⟨rfl,es,c,rfl⟩
 all_goals
  rw[q] at ho
  cases ho
  exact .inr rfl
theorem ZbD.skip {w:World}{p2 p5 po mb b1 lo:Nat}{fa fl:ZaT}{seen seen':ByteArray→List (List ByteArray)}{T:Nat}{W:World}{f:ZaT}(h:ZbD w p2 p5 po mb b1 lo fa fl seen T W f){nm:ByteArray}{t:List ByteArray}(ht:t∉Zan fa nm)(hs:∀k q,q∈seen' k↔q∈seen k∨(k=nm∧q=t)):ZbD w p2 p5 po mb b1 lo fa fl seen' (T+1) W f:=by
 obtain⟨N,n1,n2,n3⟩:=h.cnt
 refine⟨h.ext,h.low,h.base,h.map0,⟨N,n1,n2,by omega⟩,fun k q=>?_,h.ari,fun k=>by have:=h.few k;omega,h.c2,h.t2,h.c5,h.t5⟩
 rw[h.mem,hs]
 constructor
 ·rintro⟨q1,q2⟩
  exact⟨.inl q1,q2⟩
 ·rintro⟨q1|⟨rfl,rfl⟩,q2⟩
  ·exact⟨q1,q2⟩
  ·exact absurd q2 ht
theorem ZeW (f:ZaT)(k:ByteArray):Zan f k=ZeH f k:=rfl
theorem ZbD.added {w:World}{p2 p5 po mb b1 lo lo2 b2:Nat}{fa fl:ZaT}{seen seen':ByteArray→List (List ByteArray)}{T:Nat}{W W' w2:World}{f:ZaT}{e:Ending}(h:ZbD w p2 p5 po mb b1 lo fa fl seen T W f)(hl:Zbo w2 lo2 b2 fl){nm:ByteArray}{t:List ByteArray}(hnm:ZbA nm=true)(ht1:t∈Zan fl nm)(ht2:t∈Zan fa nm)(hT:T<1000)(hs:∀k q,q∈seen' k↔q∈seen k∨(k=nm∧q=t))(hp:BAdd lo po f nm t W e W'):(∃v,e=.returned v)∧∃f',ZbD w p2 p5 po mb b1 lo fa fl seen' (T+1) W' f'∧Zd6 po f f' W W':=by
 obtain⟨⟨b,q,rfl,h1,h2⟩,h3⟩:=hp
 obtain⟨N,n1,n2,n3⟩:=h.cnt
 obtain⟨y,hy,hym⟩:∃y,fl nm=some y∧t∈y.2.2:=by
  unfold Zan at ht1
  split at ht1
  ·rename_i x hx;exact⟨x,hx,ht1⟩
  ·cases ht1
 obtain⟨_,_,_,ok⟩:=hl.r.rel nm y hy
 obtain⟨r1,r2⟩:=ok.row t hym
 have hw:=ok.wide
 have har:Zj9 f nm t=t.length:=by
  unfold Zj9
  split
  ·rename_i x hx
   obtain⟨y',hy',e⟩:=h.ari nm x hx
   rw[hy] at hy'
   cases hy'
   rw[e,r1]
  ·rfl
 have hx0:ZhB f nm t=0:=by
  have hf:=h.few nm
  rw[ZeW] at hf
  have n1:¬(t.length≠Zj9 f nm t∨64<t.length):=by omega
  have n2:¬ZaP t=false:=by rw[r2];simp
  have n3:¬(65536≤(ZeH f nm).length∧ZaX (ZeH f nm) t=false):=fun q=>by omega
  unfold ZhB
  rw[if_neg (by rw[hnm];simp),if_neg n1,if_neg n2,if_neg n3]
 obtain⟨g1,g2⟩:=h2 N n1 n2 (by omega)
 rw[hx0] at g1
 obtain⟨N',g3,g4,g5,g6⟩:=g2 g1
 obtain⟨pb,v1,mv,_⟩:=h1 g1
 have ns:∀{b},Ty W b 35→¬Zb6 W po f b:=fun ht hb=>by
  rcases (h.bl hb).2 with rfl|q|q|q
  ·exact h.mbTy ht
  ·exact ht.ne q (by decide) rfl
  ·exact ht.ne q (by decide) rfl
  ·exact ht.ne q (by decide) rfl
 have up:Zbg (ZeH f nm):=by
  unfold ZeH
  split
  ·rename_i x hx;exact(h.base.r.rel nm x hx).2.2.2.up
  ·exact List.Pairwise.nil
 have hre:∀k,Zan (ZbK f nm (pb,Zj9 f nm t,ZaO (ZeH f nm) t)) k=if k=nm then ZaO (ZeH f nm) t else Zan f k:=fun k=>Zix f nm k _
 refine⟨⟨_,rfl⟩,_,⟨Zaw h.ext h3 (fun b hb hq=>by have:=(h.bl hq).1;omega),h.low,v1,g6 _ h.map0,⟨N',g3,g4,by omega⟩,fun k q=>?_,fun k x hx=>?_,fun k=>?_,h3.cell (ns h.t2) h.c2,h.t2.but h3 (ns h.t2),h3.cell (ns h.t5) h.c5,h.t5.but h3 (ns h.t5)⟩,mv⟩
 ·rw[hre,hs]
  split
  ·rename_i e
   subst e
   rw[Zes up,←ZeW,h.mem]
   constructor
   ·rintro (rfl|⟨q1,q2⟩)
    ·exact⟨.inr ⟨rfl,rfl⟩,ht2⟩
    ·exact⟨.inl q1,q2⟩
   ·rintro⟨q1|⟨_,rfl⟩,q2⟩
    ·exact .inr ⟨q1,q2⟩
    ·exact .inl rfl
  ·rename_i e
   rw[h.mem]
   constructor
   ·rintro⟨q1,q2⟩
    exact⟨.inl q1,q2⟩
   ·rintro⟨q1|⟨e2,_⟩,q2⟩
    ·exact⟨q1,q2⟩
    ·exact absurd e2 e
 ·unfold ZbK at hx
  split at hx
  ·rename_i e
   subst e
   cases hx
   exact⟨y,hy,by rw[har,r1]⟩
  ·exact h.ari k x hx
 ·rw[hre]
  have hf:=h.few k
  split
  ·rename_i e
   subst e
   have:=ZnS (ZeH f k) t
   rw[ZeW] at hf
   omega
  ·omega
theorem ZbD.seen {w:World}{p2 p5 po mb b1 lo:Nat}{fa fl:ZaT}{seen seen':ByteArray→List (List ByteArray)}{T T':Nat}{W:World}{f:ZaT}(h:ZbD w p2 p5 po mb b1 lo fa fl seen T W f)(hs:∀k q,q∈seen' k↔q∈seen k)(hT:T=T'):ZbD w p2 p5 po mb b1 lo fa fl seen' T' W f:=by
 subst hT
 exact⟨h.ext,h.low,h.base,h.map0,h.cnt,fun k q=>by rw[h.mem,hs],h.ari,h.few,h.c2,h.t2,h.c5,h.t5⟩
def ZeK (fl:ZaT)(L:List ByteArray)(k:Nat)(x:ByteArray):List (List ByteArray):=if x∈L.take k then Zan fl x else []
def Zgv (fl:ZaT)(L:List ByteArray)(k:Nat):Nat:=((L.take k).map fun x=>(Zan fl x).length).sum
def Zfx (fl:ZaT)(L:List ByteArray)(k:Nat)(nm:ByteArray)(rs:List (List ByteArray))(x:ByteArray):List (List ByteArray):=if x=nm then rs else ZeK fl L k x
theorem Zh4 {fl:ZaT}{L:List ByteArray}{k:Nat}{nm:ByteArray}(h:L[k]? =some nm):Zgv fl L (k+1)=Zgv fl L k+(Zan fl nm).length:=by
 unfold Zgv
 rw[ZaA h,List.map_append,List.sum_append]
 simp
theorem sum_le {l:List Nat}(k:Nat):(l.take k).sum≤l.sum:=by
 conv=>rhs;rw[←List.take_append_drop k l,List.sum_append]
 omega
theorem Zqz (fl:ZaT)(L:List ByteArray)(k:Nat):Zgv fl L k≤(L.map fun x=>(Zan fl x).length).sum:=by
 unfold Zgv
 rw[List.map_take]
 exact sum_le k
theorem ZkN {fl:ZaT}{L:List ByteArray}{k:Nat}{nm:ByteArray}(h:L[k]? =some nm)(x:ByteArray)(q:List ByteArray):q∈ZeK fl L (k+1) x↔q∈Zfx fl L k nm (Zan fl nm) x:=by
 unfold Zfx ZeK
 rw[ZaA h]
 by_cases hx:x=nm
 ·subst hx
  simp
 ·simp[hx]
theorem ZmW {fl:ZaT}{L:List ByteArray}{k:Nat}{nm:ByteArray}(h:L[k]? =some nm)(hup:L.Pairwise (fun x y=>ltB x y=true))(x:ByteArray)(q:List ByteArray):q∈Zfx fl L k nm [] x↔q∈ZeK fl L k x:=by
 unfold Zfx
 split
 ·rename_i e
  subst e
  unfold ZeK
  have:x∉L.take k:=fun hm=>by
   obtain⟨i,hi⟩:=List.mem_iff_getElem?.1 hm
   have hil:=(zgs hi).1
   rw[List.length_take] at hil
   rw[List.getElem?_take,if_pos (by omega)] at hi
   obtain⟨u1,u2⟩:=zgs hi
   obtain⟨v1,v2⟩:=zgs h
   have:=List.pairwise_iff_getElem.1 hup i k u1 v1 (by omega)
   rw[u2,v2] at this
   exact Zbb _ this
  rw[if_neg this]
 ·rfl
theorem Zhh (fl:ZaT)(L:List ByteArray)(k:Nat)(nm:ByteArray)(rs:List (List ByteArray))(t:List ByteArray)(x:ByteArray)(q:List ByteArray):q∈Zfx fl L k nm (rs++[t]) x↔q∈Zfx fl L k nm rs x∨(x=nm∧q=t):=by
 unfold Zfx
 split
 ·rename_i e
  simp[e]
 ·rename_i e
  simp[e]
structure Zhi (w W0:World)(p2 p5 po mb b1 lo p7:Nat)(fa fl:ZaT)(L:List ByteArray)(k:Nat)(nm:ByteArray)(rows:List (List ByteArray))(vs:List Value)(sb:Nat→Prop)(a2:Option Addr)(c2:Nat)(ds:List Deferred)(n:Nat)(rs:List (List ByteArray))(W:World):Prop where
 st:∃f,ZbD w p2 p5 po mb b1 lo fa fl (Zfx fl L k nm rs) (Zgv fl L k+n) W f∧∀b,Zb6 W po f b→sb b
 nm7:W.cell? ⟨p7,0,none⟩=some (.string nm)
 t7:Ty W p7 9
 names:W.ownsRow w.heap.size 9 1 (.slice a2 L.length c2) L.length (L.map Value.string)
 at7:Zax w.heap.size W vs rows
 size:W0.heap.size≤W.heap.size
 marks:Zd0 w.heap.size ds W
theorem Zhi.but {w W0:World}{p2 p5 po mb b1 lo p7:Nat}{fa fl:ZaT}{L:List ByteArray}{k:Nat}{nm:ByteArray}{rows:List (List ByteArray)}{vs:List Value}{sb:Nat→Prop}{a2:Option Addr}{c2:Nat}{ds:List Deferred}{n:Nat}{rs:List (List ByteArray)}{W W':World}{row:Option Nat}(h:Zhi w W0 p2 p5 po mb b1 lo p7 fa fl L k nm rows vs sb a2 c2 ds n rs W)(hmb:mb<W0.heap.size)(hw0:w.heap.size≤W0.heap.size)(hds:∀D,{target:=.collected D,args:=#[]}∈ds→D<W0.heap.size)(hg:W.grownBy W' row)(hr:∀r,row=some r→W0.heap.size≤r∧∃o:Obj,W.heap[r]? =some o∧o.isCells=false):Zhi w W0 p2 p5 po mb b1 lo p7 fa fl L k nm rows vs sb a2 c2 ds n rs W':=by
 have hr':∀r,row=some r→∃o:Obj,W.heap[r]? =some o∧o.isCells=false:=fun r e=>(hr r e).2
 have hB:Zah (fun b=>row=some b) W W':=(Zah.refl _ W).grown hg (fun b e=>.inl e)
 have hno:∀b t,row=some b→¬Ty W b t:=fun b t e ht=>by
  obtain⟨o,ho,hc⟩:=hr' b e
  obtain⟨cs,x,q⟩:=ht
  rw[q] at ho
  cases ho
  cases hc
 obtain⟨f,s1,s2⟩:=h.st
 have hs:ZbD w p2 p5 po mb b1 lo fa fl (Zfx fl L k nm rs) (Zgv fl L k+n) W' f:=s1.but hB (fun b e=>Nat.le_trans hw0 (hr b e).1) (fun b e=>⟨fun q=>by have:=(hr b e).1;omega,fun t=>hno b t e⟩)
 refine⟨⟨f,hs,fun b hb=>s2 b ?_⟩,hB.cell (fun q=>hno _ _ q h.t7) h.nm7,h.t7.but hB (fun q=>hno _ _ q h.t7),ZdC h.names hg hr',h.at7.keptN hg hr',Nat.le_trans h.size hg.size,h.marks.but hB fun b q _ hd e=>by have:=hds b hd;have:=(hr b e).1;omega⟩
 rcases hb with hb|hb|⟨k',x,hx,hb⟩
 ·exact .inl hb
 ·rw[hs.map0] at hb
  exact .inr (.inl (s1.map0.trans hb))
 ·refine .inr (.inr ⟨k',x,hx,hb.imp id fun q=>?_⟩)
  obtain⟨_,_,_,r1,_⟩:=(s1.base.r.rel k' x hx).2.1.row
  rw[Za6 r1]
  rwa [Za6 (hB.cell (fun q=>hno _ _ q (s1.base.r.rel k' x hx).2.2.1) r1)] at q
theorem Zhi.own {w W0:World}{p2 p5 po mb b1 lo p7:Nat}{fa fl:ZaT}{L:List ByteArray}{k:Nat}{nm:ByteArray}{rows:List (List ByteArray)}{vs:List Value}{sb:Nat→Prop}{a2:Option Addr}{c2:Nat}{ds:List Deferred}{α:Type}{g:List α→List (List ByteArray)}{hh:List α→Nat}(hmb:mb<W0.heap.size)(hw0:w.heap.size≤W0.heap.size)(hds:∀D,{target:=.collected D,args:=#[]}∈ds→D<W0.heap.size):OwnFrom W0.heap.size (fun pre W=>Zhi w W0 p2 p5 po mb b1 lo p7 fa fl L k nm rows vs sb a2 c2 ds (hh pre) (g pre) W):=fun _ _ _ _ hs hg hr=>hs.but hmb hw0 hds hg hr
def ZlW (fa fl:ZaT)(w:World)(e:Ending)(w':World):Prop:=Ext w w'∧∃bb fB,e=.returned (.pointer (some ⟨bb,0,none⟩))∧Zbo w' w.heap.size bb fB∧(∀k q,q∈Zan fB k↔q∈Zan fl k∧q∈Zan fa k)
theorem Zuo (lo1 b1 lo2 b2:Nat)(fa fl:ZaT)(L:List ByteArray)(w:World)(h1:Zbo w lo1 b1 fa)(h2:Zbo w lo2 b2 fl)(hL:∀k,fl k≠none↔k∈L)(hnm:∀k∈L,ZbA k=true)(hn:L.length≤1000000)(hup:L.Pairwise (fun x y=>ltB x y=true))(htot:(L.map fun x=>(Zan fl x).length).sum≤1000):
  Calls Tryz.prog 25 #[.pointer (some ⟨b1,0,none⟩),.pointer (some ⟨b2,0,none⟩)] w (ZlW fa fl w):=by
 refine(callsIn_wide (n:=6)).1 ?_
 refine callsIn_of_wp_marks Tryz.func25 rfl trivial ?_
 simp only[Tryz.ntmps25,List.size_toArray,List.length_cons,List.length_nil,Nat.reduceAdd,Nat.reduceSub,Array.replicate_succ,Array.replicate_zero,List.push_toArray,List.append_toArray,List.nil_append,List.cons_append]
 refine wpIn_wide.2 ?_
 have H1:=zh h1
 have H2:=zh h2
 have HUP:=zh hup
 have HNM:=zh hnm
 have HTOT:=zh htot
 have HLM:=zh hL
 have EA:Hid (∀o,Ext w (w.alloc o)):=fun o=>Zab zbr o
 have NB:=zh Zjn
 have NM:Hid (∀W,Ext w W→Calls Tryz.prog 40 #[.pointer (some ⟨b2,0,none⟩)] W fun e w'=>∃v:Value,e=.returned v∧w'.ownsRow W.heap.size 9 1 v L.length (L.map Value.string)∧Ext W w'):=fun W hW=>ZoS lo2 b2 fl L W (h2.ext hW) hL (fun k hk=>by have:=hnm k hk;unfold ZbA at this;simp at this;exact this.2) hn hup
 clear h1 h2 hup hnm htot hL
 go_wp2_with (first
  |(go_at_call 50;(with_reducible refine(NB.out _).mono ?_);rintro e w1 ⟨rfl,v1,e1,z1⟩)
  |(go_at_call 40;(with_reducible refine(NM.out _ (Zab (Zaa (EA.out _) e1) _)).mono ?_);rintro e w2 ⟨v2,rfl,o2,e2⟩;obtain⟨a2,c2,rfl,_⟩:=Zag o2))
 obtain⟨mb,m1,m2,m3⟩:=v1.m
 have S2:Hid (ZbD w w.heap.size w1.heap.size (w.heap.size+1+1) mb b1 (w.heap.size+1) fa fl (ZeK fl L 0) (Zgv fl L 0) w2 (fun _=>none)):=by
  have E12:Ext w1 w2:=Zaa (Zab zbr _) e2
  have s1:(w.alloc (.cells #[.pointer (some ⟨b1,0,none⟩)] 35)).heap.size=w.heap.size+1:=by simp
  rw[s1] at v1 m1 m2 z1
  have k20:(w.alloc (.cells #[.pointer (some ⟨b1,0,none⟩)] 35)).cell? ⟨w.heap.size,0,none⟩=some (.pointer (some ⟨b1,0,none⟩)):=by go_simp
  have k2:=Zac E12 (Zac e1 k20)
  have y2:Ty (w.alloc (.cells #[.pointer (some ⟨b1,0,none⟩)] 35)) w.heap.size 35:=⟨_,_,heap_alloc_new _ _⟩
  have k50:(w1.alloc (.cells #[.pointer (some ⟨w.heap.size+1+1,0,none⟩)] 35)).cell? ⟨w1.heap.size,0,none⟩=some (.pointer (some ⟨w.heap.size+1+1,0,none⟩)):=by go_simp
  have k5:=Zac e2 k50
  have y5:Ty (w1.alloc (.cells #[.pointer (some ⟨w.heap.size+1+1,0,none⟩)] 35)) w1.heap.size 35:=⟨_,_,heap_alloc_new _ _⟩
  exact⟨Zaa (Zaa (EA.out _) e1) E12,by omega,v1.ext E12,Zac E12 m2,⟨0,Zac E12 z1,by omega,by omega⟩,fun k q=>by simp[Zan,ZeK],fun k x h=>(by cases h),fun k=>by simp[Zan],k2,(y2.ext e1).ext E12,k5,y5.ext e2⟩
 have O2:Hid (w2.ownsRow w.heap.size 9 1 (.slice a2 L.length c2) L.length (L.map Value.string)):=by
  have h1:=e1.size
  simp only[World.size_alloc] at h1
  exact Zao o2 (by simp only[World.size_alloc];omega)
 have MB:Hid (mb<w2.heap.size):=by
  obtain⟨mb',_,q1,q2⟩:=S2.out.base.m
  rw[S2.out.map0] at q1
  cases q1
  exact q2.lt
 obtain⟨p2,hp2⟩:∃p,w.heap.size=p:=⟨_,rfl⟩
 obtain⟨p5,hp5⟩:∃p,w1.heap.size=p:=⟨_,rfl⟩
 obtain⟨po,hpo⟩:∃p,w.heap.size+1+1=p:=⟨_,rfl⟩
 obtain⟨lo,hlo⟩:∃p,w.heap.size+1=p:=⟨_,rfl⟩
 have HLO:=zh hlo
 have S3:Hid (ZbD w p2 p5 po mb b1 lo fa fl (ZeK fl L 0) (Zgv fl L 0) w2 (fun _=>none)):=by
  have:=S2.out
  rw[hpo,hp5,hlo] at this
  rw[←hp2]
  exact this
 rw[hpo,hp5,hp2]
 clear hp2 hp5 hpo hlo S2 v1 m1 m2 m3 o2 e1 e2 z1
 refine wp_loop (fun a' w'=>∃(k:Nat) (ds:List Deferred) (f:ZaT) (u7 u8 u13 u14 u15 u16 u17 u18 u19 u29:Value),k≤L.length∧u13=.int .i64 (k:Nat)∧ZbD w p2 p5 po mb b1 lo fa fl (ZeK fl L k) (Zgv fl L k) w' f∧w'.ownsRow w.heap.size 9 1 (.slice a2 L.length c2) L.length (L.map Value.string)∧Zd0 w.heap.size ds w'∧mb<w'.heap.size∧a'={tmps:=#[.pointer (some ⟨b1,0,none⟩),.pointer (some ⟨b2,0,none⟩),.pointer (some ⟨p2,0,none⟩),undef,.pointer none,.pointer (some ⟨p5,0,none⟩),undef,u7,u8,.pointer (some ⟨po,0,none⟩),.pointer (some ⟨b2,0,none⟩),.slice a2 L.length c2,.int .i64 L.length,u13,u14,u15,u16,u17,u18,u19,undef,undef,undef,undef,undef,undef,undef,undef,undef,u29,undef],defers:=ds}) (fun a' _=>L.length-(intOf (a'.tmps.getD 13 undef)).toNat) ?_ ?_
 ·exact⟨0,[],_,_,_,_,_,_,_,_,_,_,_,by omega,rfl,S3.out,O2.out,Zd0.nil _ _,MB.out,rfl⟩
 ·rintro a' wr ⟨k,ds,f,u7,u8,u13,u14,u15,u16,u17,u18,u19,u29,hk,rfl,hst,hown,hmk,hmb,rfl⟩
  have ST:=zh hst
  have OW:=zh hown
  have MK:=zh hmk
  have HMB:=zh hmb
  clear hst hown hmk hmb
  by_cases hlt:k<L.length
  ·have hki:(k:Int)<(L.length:Int):=by omega
   obtain⟨nm,hnm⟩:∃nm,L[k]? =some nm:=⟨_,zge hlt⟩
   obtain⟨g,rfl,hg⟩:=Zd7 OW.out (show (L.map Value.string)[k]? =some (.string nm) by rw[List.getElem?_map,hnm];rfl)
   have HNK:=zh hnm
   obtain⟨rows,hrows⟩:∃rows,Zan fl nm=rows:=⟨_,rfl⟩
   have HR:=zh hrows
   have EC:Hid (∀W,Ext wr W→Calls Tryz.prog 61 #[.pointer (some ⟨b2,0,none⟩),.string nm] W (ZiH rows W)):=fun W hW=>by
    have:=Zoe lo2 b2 fl nm W (H2.out.ext (Zaa ST.out.ext hW))
    rw[hrows] at this
    exact this
   clear hnm hrows
   go_wp2_with (go_at_call 61;(with_reducible refine(EC.out _ (Zab zbr _)).mono ?_);rintro e w4 ⟨bs,a4,c4,vs,rfl,q1,q2,q3,q4,q5,q6⟩)
   have SZ3:(wr.alloc (.cells #[.string nm] 9)).heap.size=wr.heap.size+1:=by simp
   have Q1:Hid (wr.heap.size+1≤w4.heap.size):=by have:=q6.size;show _≤_;omega
   have E4:Hid (Ext wr w4):=Zaa (Zab zbr _) q6
   have h1v:∀v∈vs,∃a m c,v=Value.slice a m c:=fun v hv=>by
    obtain⟨j,hj⟩:=List.mem_iff_getElem?.1 hv
    have hjl:=(zgs hj).1
    obtain⟨r,hrr⟩:∃r,rows[j]? =some r:=⟨_,zge (by have:=q5.1;omega)⟩
    obtain⟨a,c,e,_⟩:=Zag (q5.2 j r v hrr hj)
    exact⟨a,_,c,e⟩
   have hlo:∀b,(Value.slice a4 rows.length c4).ownBlock=some b→wr.heap.size+1≤b∧b<w4.heap.size:=fun b e=>by
    have:=q4.lt b e
    rw[SZ3] at this
    exact this
   have htot:Zgv fl L k+rows.length≤1000:=by
    have h1:=Zqz fl L (k+1)
    rw[Zh4 HNK.out,HR.out] at h1
    exact Nat.le_trans h1 HTOT.out
   have hmks:∀D,{target:=.collected D,args:=#[]}∈ds→D<w4.heap.size:=fun D hd=>by
    have h1:=MK.out.lt hd
    have h2:=E4.out.size
    omega
   have hw4:w.heap.size≤w4.heap.size:=by
    have h1:=ST.out.ext.size
    have h2:=E4.out.size
    omega
   have hnmB:ZbA nm=true:=HNM.out nm (zmg HNK.out)
   refine(wpIn_wide (n:=6)).1 ?_
   refine wpIn_rangeFunc_ownG (F:=Fence.wide) rfl (by omega) (gf:=125) (lb:=#[.pointer (some ⟨bs,0,none⟩)]) rfl trivial (enters_of Tryz.func125 (by kernel_rfl) rfl)
    (ZcK Fence.wide 5 trivial rfl (by omega) bs _ rows.length c4 a4 vs w4 q4 h1v (by omega) (fun b=>(Value.slice a4 rows.length c4).ownBlock≠some b) (fun b e h=>h e) q2 q3) (fun h k=>h.trans k) (fun W l o o' hl _ _ _=>Zah.putObj W o' (fun e=>by have:=(hlo l e).2;omega)) zbr (fun _=>rfl)
    (fun pre W=>Zhi w w4 p2 p5 po mb b1 lo wr.heap.size fa fl L k nm rows vs (fun b=>(Value.slice a4 rows.length c4).ownBlock≠some b) (some ⟨g,0,none⟩) c2 ds pre.length (ZaM rows pre) W)
    (fun _ _ _=>False)
    (Zhi.own (Nat.lt_of_lt_of_le HMB.out E4.out.size) hw4 hmks)
    (fun _ _ _ _ _ hs _ _=>hs)
    ?start
    (fun x=>{tmps:=#[.pointer (some ⟨b1,0,none⟩),.pointer (some ⟨b2,0,none⟩),.pointer (some ⟨p2,0,none⟩),undef,.pointer none,.pointer (some ⟨p5,0,none⟩),undef,.pointer (some ⟨wr.heap.size,0,none⟩),vs[x.1]?.getD undef,.pointer (some ⟨po,0,none⟩),.pointer (some ⟨b2,0,none⟩),.slice (some ⟨g,0,none⟩) L.length c2,.int .i64 L.length,.int .i64 (k:Nat),.bool true,.pointer (some ⟨g,k,none⟩),.string nm,.pointer (some ⟨b2,0,none⟩),.string nm,.func (.func 125) #[] #[.pointer (some ⟨bs,0,none⟩)],vs[x.1]?.getD undef,undef,undef,undef,undef,undef,undef,undef,undef,u29,undef],defers:=[]}) ?assign ?body ?done ?stop
   case start=>
    refine⟨⟨f,(ST.out.later E4.out).seen (fun x q=>ZmW HNK.out HUP.out x q) rfl,fun b hb e=>?_⟩,Zac q6 (by go_simp),Ty.ext ⟨_,_,heap_alloc_new _ _⟩ q6,Zar OW.out E4.out,⟨q5.1,fun i r v u1 u2=>Zao (q5.2 i r v u1 u2) (by rw[SZ3];have:=ST.out.ext.size;omega)⟩,Nat.le_refl _,MK.out.ext E4.out⟩
    have h1:=(ST.out.base.bl (ST.out.base.r.ext_bl E4.out hb)).2
    have h2:=(hlo b e).1
    omega
   case assign=>
    intro l x W K hK
    gi_wp2
    exact hK
   case body=>
    intro l pre x W hI hpl
    obtain⟨r,hr1⟩:∃r,rows[x.1]? =some r:=⟨_,zge x.2⟩
    obtain⟨v,hv1⟩:∃v,vs[x.1]? =some v:=⟨_,zge (by rw[q5.1];exact x.2)⟩
    have ho1:=hI.at7.2 _ r v hr1 hv1
    obtain⟨a7,c7,rfl,_⟩:=Zag ho1
    have hv2:vs[x.1]?.getD undef=.slice a7 r.length c7:=by rw[hv1];rfl
    rw[hv2]
    obtain⟨f',hst,hsb⟩:=hI.st
    have hc2:=hst.c2
    have hc5:=hst.c5
    have hc7:=hI.nm7
    have hmem:r∈Zan fl nm:=by rw[HR.out];exact zmg hr1
    have hr64:r.length≤64:=by
     have hm:=hmem
     unfold Zan at hm
     split at hm
     ·rename_i y hy
      have ok:=(H2.out.r.rel nm y hy).2.2.2
      have h1:=(ok.row r hm).1
      have h2:=ok.wide
      omega
     ·cases hm
    have hrs:Zai W a7 r.length r:=ZaL ho1 (Za4 ho1).1
    have HS:=zh (Zun lo1 b1 fa nm r a7 r.length c7 W (H1.out.ext hst.ext) hrs)
    have AD:=zh (Zrf lo po f' nm r a7 r.length c7 W hst.base hrs (ZaF ho1).2 (by have:=hr64;omega))
    have hup:Zbg (Zan fa nm):=by
     unfold Zan
     split
     ·rename_i y hy;exact(H1.out.r.rel nm y hy).2.2.2.up
     ·exact List.Pairwise.nil
    have HF:Hid (ZaX (Zan fa nm) r=true↔r∈Zan fa nm):=Zdu hup r
    have HSN:Hid (ZaM rows (pre++[x])=ZaM rows pre++[r]):=Zcl rows pre x hr1
    have HI:=zh hI
    have HST:=zh hst
    have HSB:=zh hsb
    have HLEN:Hid ((pre++[x]).length=pre.length+1):=by show _=_;simp
    have HPL:Hid (Zgv fl L k+pre.length<1000):=by show _<_;omega
    obtain⟨B,hB⟩:∃B,ZaX (Zan fa nm) r=B:=⟨_,rfl⟩
    rw[hB] at HS HF
    clear hv2 hv1 hI hst hsb hB hup hrs ho1 hpl
    cases B with
    |false=>
     gi_wp2_with (refine ⟨trivial,?_⟩;gi_at_call 62;refine(CallsIn.inRound l (callsIn_wide.2 HS.out)).mono ?_;rintro e w7 ⟨rfl,hw7⟩;obtain rfl:=hw7.symm)
     refine⟨KeepsFrom.refl _ _,Zah.refl _ _,⟨f',?_,HSB.out⟩,HI.out.nm7,HI.out.t7,HI.out.names,HI.out.at7,HI.out.size,HI.out.marks⟩
     rw[HSN.out,HLEN.out]
     exact HST.out.skip (fun h=>by have:=HF.out.2 h;cases this) (Zhh fl L k nm (ZaM rows pre) r)
    |true=>
     have HIN:Hid (r∈Zan fa nm):=HF.out.1 rfl
     gi_wp2_with (first
      |(refine ⟨trivial,?_⟩;gi_at_call 62;refine(CallsIn.inRound l (callsIn_wide.2 HS.out)).mono ?_;rintro e w7 ⟨rfl,hw7⟩;obtain rfl:=hw7.symm)
      |(refine ⟨trivial,?_⟩;gi_at_call 52;refine(CallsIn.inRound l (callsIn_wide.2 AD.out)).mono ?_;intro e w8 hp;obtain⟨⟨v8,rfl⟩,f8,st8,mv8⟩:=ZbD.added HST.out (H2.out) hnmB hmem HIN.out HPL.out (Zhh fl L k nm (ZaM rows pre) r) hp;have bu8:=hp.2))
     have nstr:∀b,Ty W b 9→¬Zb6 W po f' b:=fun b ht hb=>by
      rcases (HST.out.bl hb).2 with rfl|q|q|q
      ·exact HST.out.mbTy ht
      ·exact ht.ne q (by decide) rfl
      ·exact ht.ne q (by decide) rfl
      ·exact ht.ne q (by decide) rfl
     refine⟨⟨bu8.size,fun j o hj hk ho=>(bu8.block j (zag hk).1 fun hb=>?_).trans hk⟩,bu8.mono fun b _ hb=>HSB.out b hb,⟨f8,?_,fun b hb e=>?_⟩,bu8.cell (nstr _ HI.out.t7) HI.out.nm7,HI.out.t7.but bu8 (nstr _ HI.out.t7),bu8.own HI.out.names (fun b hb=>nstr b (ZaN HI.out.names hb)),⟨HI.out.at7.1,fun i r v q1 q2=>bu8.own (HI.out.at7.2 i r v q1 q2) (fun b hb=>nstr b (ZaN (HI.out.at7.2 i r v q1 q2) hb))⟩,Nat.le_trans HI.out.size bu8.size,HI.out.marks.but bu8 fun b q hq _ hb=>?_⟩
     ·rcases HST.out.blObj hb hk with⟨rfl,_⟩|q
      ·have h1:=HMB.out
       have h2:=E4.out.size
       omega
      ·rw[q] at ho;cases ho
     ·rw[HSN.out,HLEN.out]
      exact st8
     ·rcases mv8.own b hb with q|q
      ·exact HSB.out b q e
      ·have h1:=(hlo b e).2
       have h2:=HI.out.size
       omega
     ·rcases HST.out.blObj hb hq with⟨_,_,_,q⟩|q
      ·cases q
      ·cases q
   case done=>
    intro D ys W hD hys hI hK
    have hnr:ZaM rows ys=rows:=by
     have e:ys=Zef rows.length rows.length:=hys
     rw[e,ZdD rows (Nat.le_refl _),List.take_length]
    obtain⟨f9,st9,_⟩:=hI.st
    rw[hnr] at st9
    have hyl:ys.length=rows.length:=by
     have:=congrArg List.length hnr
     unfold ZaM at this
     rw[List.length_map] at this
     exact this
    rw[hyl] at st9
    dsimp only
    go_wp2
    refine⟨⟨k+1,_,f9,_,_,_,_,_,_,_,_,_,_,by omega,by go_num,st9.seen (fun x q=>by rw[←HR.out];exact ZkN HNK.out x q) (by rw[Zh4 HNK.out,HR.out]),hI.names,hI.marks.push (Nat.le_trans hw4 hD) hK (fun hd=>by have:=hmks D hd;omega),Nat.lt_of_lt_of_le HMB.out (Nat.le_trans E4.out.size hI.size),rfl⟩,?_⟩
    simp[intOf]
    omega
   case stop=>
    rintro D c pre W _ _ h _
    exact h.elim
  ·obtain rfl:k=L.length:=by omega
   have hge:¬(L.length:Int)<(L.length:Int):=by omega
   have hc5:=ST.out.c5
   go_wp2
   refine Zgo ds _ MK.out fun w' hw'=>?_
   have SF:=ST.out.but hw' (fun b hb=>hb.1) (fun b hb=>by
    obtain⟨_,q,hq⟩:=hb
    refine⟨fun e=>?_,fun t ht=>?_⟩
    ·obtain⟨es,c,h2⟩:=ST.out.mbMap
     rw[e,h2] at hq
     cases hq
    ·obtain⟨cs,x,h2⟩:=ht
     rw[h2] at hq
     cases hq)
   refine⟨_,results_tmp rfl _ _ _,SF.ext,po,f,rfl,?_,fun k q=>?_⟩
   ·exact⟨⟨Nat.le_trans SF.low SF.base.r.low,SF.base.r.ty,SF.base.r.n,SF.base.r.free,fun k x hx=>by obtain⟨q1,q2⟩:=SF.base.r.rel k x hx;exact⟨Nat.le_trans SF.low q1,q2⟩,SF.base.r.apart⟩,by obtain⟨mb',q1,q2⟩:=SF.base.m;exact⟨mb',Nat.le_trans SF.low q1,q2⟩⟩
   ·rw[SF.mem]
    unfold ZeK
    rw[List.take_length]
    by_cases hk:k∈L
    ·rw[if_pos hk]
    ·rw[if_neg hk]
     have:Zan fl k=[]:=by
      have:=mt (HLM.out k).1 hk
      unfold Zan
      cases hf:fl k with
      |none=>rfl
      |some x=>exact absurd (by rw[hf];simp) this
     rw[this]
