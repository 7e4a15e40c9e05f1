/- A region that draws its order, within a round of a loop over a function: what holds of it outside holds there. -/
import Derived.Test.YtjfbjjmiobgjfaaGreatG14
set_option maxRecDepth 100000
set_option maxHeartbeats 8000000
namespace Go.Proofs.YtjfbjjmiobgjfaaGreat
open ChangeShapes WideShapes ChangeAt RowKit Go.Shelf
theorem Zsi {n l:Nat}{P:Program}{row:String}{args:Array Value}{w:World}{R:Value→World→Prop}(h:Rows P row args w R):RowsIn (Fence.wide.inRound l) n P row args w R:=fun c cs _=>
 let ⟨v,w',r,s⟩:=h c cs
 ⟨v,w',r,stepsIn_wide.2 s⟩
theorem Zsj {l n:Nat}{P:Program}{o:Oper}{a:Act}{w:World}{K:Act→World→Prop}{Q:Exit→Act→World→Prop}(hd:∀c,o.op≠.defer c)(h:o.wp P a w K Q):o.wpIn (Fence.wide.inRound l) n P a w K Q:=by
 unfold Oper.wpIn
 refine⟨fun _ _=>trivial,?_⟩
 rw[show (Fence.wide.inRound l).round=some l from rfl,Oper.semAt_some l _ _ hd]
 unfold Oper.wp at h
 generalize (execOp a.eval o).run P w=r at h ⊢
 cases r with
 |ok x w'=>
  cases x with
  |value v=>exact h
  |skip=>exact h
  |defer d=>exact h
  |enter f args=>exact⟨fun q=>absurd (show (none:Option Nat).isSome=true from q) (by simp),(callsIn_wide.2 h).inRound l⟩
  |row row args=>exact⟨fun q=>absurd (show (none:Option Nat).isSome=true from q) (by simp),Zsi h⟩
  |round l' f tmps assign body=>exact h.elim
  |_=>exact h.elim
 |halt x w'=>cases x <;> exact h
theorem ZlG {l n:Nat}{P:Program}{md:Region.Mode}{ops:Array Oper}{Q:Exit→Act→World→Prop}(hd:∀o∈ops,∀c,o.op≠.defer c)(hno:¬LetsOut Q):∀(fuel:Nat) (listed:Array Bool) (a:Act) (w:World),wpAny P md ops Q fuel listed a w→wpAnyIn (Fence.wide.inRound l) n P md ops Q fuel listed a w
 |0,_,_,_,h=>h
 |fuel+1,listed,a,w,h=>⟨h.1,fun i hi=>by
   have h1:=h.2 i hi
   unfold wpOp at h1
   unfold wpOpIn
   cases ho:ops[i]? with
   |none=>
    rw[ho] at h1
    exact ZlG hd hno fuel _ a w h1
   |some o=>
    rw[ho] at h1
    simp only at h1 ⊢
    by_cases hw:Region.wanted o (yielded ops a.tmps)=true
    ·rw[if_pos hw] at h1 ⊢
     rcases h1 with h1|h1
     ·exact Zsj (hd o (Array.mem_of_getElem? ho)) (Oper.wp_mono (fun a w hh=>ZlG hd hno fuel _ a w hh) h1)
     ·exact absurd h1.2 hno
    ·rw[if_neg hw] at h1 ⊢
     exact⟨fun _ _=>trivial,ZlG hd hno fuel _ _ w h1⟩⟩
theorem Zg3 {l n id:Nat}{P:Program}{ops:Array Oper}{Q:Exit→Act→World→Prop}{a:Act}{w:World}(S:World→Prop)(hm:P.follows .mixedOrders=true)(hd:(ops.all fun o=>match o.op with| .defer _=>false|_=>true)=true)(hno:¬LetsOut Q)(hS:S w.drew)
  (h:S w.drew→wpAnyH P .any ops Q S ops.size (Array.replicate ops.size false) a w.drew):(Code.region id ops true).wpIn (Fence.wide.inRound l) n P Q a w:=
 wpIn_region_any hm (ZlG (fun o ho c hc=>by
  have:=Array.all_eq_true'.1 hd o ho
  rw[hc] at this
  cases this) hno _ _ _ _ (wpAny_of_held _ _ _ _ (h hS)))
