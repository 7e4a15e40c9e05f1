/- slices.SortFunc at edges, where there is none. The sort of the web's edges: there is one order. A region that draws its order and ends in a store: what holds of the world ahead of the store is asked of no world behind it. -/
import Derived.Test.YtlalgaioiapjmaaGreatDoorG5
import Derived.Test.YtlalgaioiapjmaaGreatDoorG6
import Derived.Test.YtlalgaioiapjmaaGreatDoorG20
import Derived.Shelf.SlSortCmp.NoneTotal
import Derived.Deep.RegionHeld3
namespace Go.Proofs.YtlalgaioiapjmaaGreatDoor
open Go.ChangeShapes Go.WideShapes Go.ChangeAt Go.RowKit Go.Shelf Go.Lib Go.Sort
theorem c_sortE0 (p : Option Addr) (cap : Nat) (fv : Value) (w : World) :
    Calls Tryz.prog 62 #[.slice p 0 cap, fv] w fun e w' => e = .returned (.tuple #[]) ∧ w' = w :=
  AnyF.slices_SortFunc_none Tryz.sortE p cap fv w
end Go.Proofs.YtlalgaioiapjmaaGreatDoor
namespace Go.Proofs.YtlalgaioiapjmaaGreatDoor
open Go.ChangeShapes Go.WideShapes Go.ChangeAt Go.RowKit Go.Sort
open K (AL Rule checkP)
def SortPost (rs : List Rule) (ae : Option Addr) (n ce : Nat) (W : World) (e : Ending) (w' : World) : Prop := e = .returned (.tuple #[]) ∧ EdgesAt w' ae n (edgesQ rs) ∧ ButS (fun x => (Value.slice ae n ce).ownBlock = some x) W w'
theorem c_sortW {rs : List Rule} (hc : checkP rs = 0) {E : List K.Edge} (hE : E.Perm ((pqP rs).map (edgeQ (namesQ rs)))) {W : World} {lo n ce : Nat} {ae : Option Addr} (own : W.ownsRow lo 110 3 (.slice ae n ce) n (edgesC E)) :
    Calls Tryz.prog 62 #[.slice ae n ce, .func (.func 63) #[] #[]] W (SortPost rs ae n ce W) := by
  have hl : E.length = n := by
    have := own.1
    rw [edgesC_len] at this
    omega
  have hq : (edgesQ rs).length = n := by
    have h : (edgesQ rs).Perm ((pqP rs).map (edgeQ (namesQ rs))) := List.mergeSort_perm _ _
    rw [h.length_eq, ← hE.length_eq, hl]
  have hn : n ≤ 65536 := by
    have := (pairs_all hc).2.2
    have h2 := hE.length_eq
    rw [List.length_map] at h2
    omega
  rcases own.2 with ⟨h1, h0⟩ | ⟨g, c', cur, hv, hb, hg, hr⟩
  · cases h1
    refine (c_sortE0 none 0 _ W).mono ?_
    rintro e w' ⟨rfl, rfl⟩
    have : edgesQ rs = [] := List.eq_nil_of_length_eq_zero hq
    unfold SortPost
    rw [this]
    exact ⟨rfl, ⟨by omega, rfl, fun i x hx => by simp at hx⟩, ButS.refl _ _⟩
  · cases hv
    have hH := holds_edges own
    have hsz : E.toArray.size = n := by simpa using hl
    have hc2 := c_sortE g 0 ce E.toArray W hH (Array.getElem?_eq_some_iff.1 hg).1 (by omega)
    rw [hsz] at hc2
    refine hc2.mono ?_
    rintro e w' ⟨rfl, d', m, os, hp, hs, rfl⟩
    have hsd : d'.size = n := by rw [hp.1, hsz]
    have ho : d'.toList = edgesQ rs := edges_one hc (d := E.toArray) (by simpa using hE) (by rw [hsz]; exact hp) (by rw [hsz]; exact hs)
    refine ⟨rfl, ?_, (sortWorld_but encE W g 0 m d' os).mono (fun b _ q => by rw [q]; rfl)⟩
    have hh := holdsK_sortWorldK_c (enc := encE) (k := 3) (w := W) (blk := g) (off := 0) E.toArray d' m os hH (Array.getElem?_eq_some_iff.1 hg).1 (by rw [hsd, hsz])
    have := edges_held hh (by omega)
    rwa [hsd, ho] at this
end Go.Proofs.YtlalgaioiapjmaaGreatDoor
namespace Go.Proofs.YtlalgaioiapjmaaGreatDoor
open Go.ChangeShapes Go.WideShapes Go.ChangeAt Go.RowKit
section
variable {P : Program} {ops : Array Oper} {Q : Exit → Act → World → Prop} {md : Region.Mode} {S : World → Prop} {st : Nat}
/-- Whatever order is picked; S holds behind every operation but the one numbered st. -/
def wpAnyG (P : Program) (md : Region.Mode) (ops : Array Oper) (Q : Exit → Act → World → Prop) (S : World → Prop) (st : Nat) : Nat → Array Bool → Act → World → Prop
  | 0, listed, a, w => Region.ready md ops listed = [] ∧ Q .normal a w
  | fuel + 1, listed, a, w =>
    (Region.ready md ops listed = [] → Q .normal a w) ∧
    ∀ i ∈ Region.ready md ops listed, wpOp P ops Q i (fun a' w' => (i ≠ st → S w') ∧ wpAnyG P md ops Q S st fuel (listed.setIfInBounds i true) a' w') a w
theorem any_of_last : ∀ (fuel : Nat) (listed : Array Bool) (a : Act) (w : World), wpAnyG P md ops Q S st fuel listed a w → wpAny P md ops Q fuel listed a w
  | 0, _, _, _, h => h
  | fuel + 1, _, _, _, h => ⟨h.1, fun i hi => wpOp_mono (fun a' w' h' => any_of_last fuel _ a' w' h'.2) (h.2 i hi)⟩
theorem last_first {i : Nat} {oi : Oper} {v : Value} (hi : ops[i]? = some oi) (hsel : ∀ (j : Nat) (o : Oper) cs b, ops[j]? = some o → o.op ≠ .select cs b)
    (hQ : ∀ c a w, Q (.panic c) (a.put oi.dst v) w → Q (.panic c) a w) (hst : ∀ o, ops[st]? = some o → ∃ e ∈ o.after, Region.binds md e = true ∧ e.on = i) :
    ∀ (fuel : Nat) (listed : Array Bool) (a : Act) (w : World),
      (∀ j oj, ops[j]? = some oj → j ≠ i → listed.getD j true = false → (∀ e ∈ oj.after, Region.binds md e = true → e.on ≠ i) → oi.apart ops oj = true) →
      i ∈ Region.ready md ops listed → YieldsIf P ops S oi v a → S w →
      wpAnyG P md ops Q S st fuel (listed.setIfInBounds i true) (a.put oi.dst v) w → wpAnyG P md ops Q S st (fuel + 1) listed a w := by
  intro fuel
  induction fuel with
  | zero =>
    intro listed a w _ hr hy hS H
    refine ⟨fun h => (by rw [h] at hr; cases hr), fun j hj => ?_⟩
    by_cases hji : j = i
    · subst hji; exact hy.wpOp hi hS ⟨fun _ => hS, H⟩
    · have := ready_mono hj hji
      rw [H.1] at this
      cases this
  | succ fuel ih =>
    intro listed a w hfree hr hy hS H
    refine ⟨fun h => (by rw [h] at hr; cases hr), fun j hj => ?_⟩
    by_cases hji : j = i
    · subst hji; exact hy.wpOp hi hS ⟨fun _ => hS, H⟩
    · have h1 := H.2 j (ready_mono hj hji)
      obtain ⟨hjun, oj, hoj, hall⟩ := mem_ready.1 hj
      have hnot : ∀ e ∈ oj.after, Region.binds md e = true → e.on ≠ i := fun e he hb heq => by
        have h1 := hall e he hb
        have h0 := (mem_ready.1 hr).1
        rw [heq] at h1
        rcases Nat.lt_or_ge i listed.size with h' | h'
        · simp [h'] at h0 h1; rw [h0] at h1; cases h1
        · simp [Array.getElem?_eq_none h'] at h1
      have hjst : j ≠ st := by
        rintro rfl
        obtain ⟨e, he, hb, hon⟩ := hst oj hoj
        exact hnot e he hb hon
      have h2 := wpOp_putIf hoj (hfree j oj hoj hji hjun hnot) (fun cs b => hsel i oi cs b hi) (fun cs b => hsel j oj cs b hoj) hQ hy h1
      have hfree' : ∀ k ok, ops[k]? = some ok → k ≠ i → (listed.setIfInBounds j true).getD k true = false →
          (∀ e ∈ ok.after, Region.binds md e = true → e.on ≠ i) → oi.apart ops ok = true := fun k ok hk hki hun hno => by
        refine hfree k ok hk hki ?_ hno
        by_cases hjk : j = k
        · subst hjk; exact hjun
        · rw [getD_set_ne true hjk] at hun; exact hun
      refine wpOp_mono (fun a' w' h3 => ⟨fun _ => h3.2.1 hjst, ih (listed.setIfInBounds j true) a' w' hfree' (ready_mono hr (Ne.symm hji)) h3.1 (h3.2.1 hjst) ?_⟩) h2
      rw [Array.setIfInBounds_comm _ _ hji]
      exact h3.2.2
/-- Does the store wait for this one? -/
def waits (md : Region.Mode) (ops : Array Oper) (st i : Nat) : Bool := match ops[st]? with
  | some o => o.after.any fun e => Region.binds md e && e.on == i
  | none => true
theorem wpAnyG_take {i : Nat} {oi : Oper} {v : Value} {fuel : Nat} {listed : Array Bool} {a : Act} {w : World} (hi : ops[i]? = some oi)
    (hs : Region.noSelect ops = true) (hf : Region.free md ops listed i = true) (hr : (Region.ready md ops listed).contains i = true) (hw : waits md ops st i = true)
    (hQ : ∀ c a w, Q (.panic c) (a.put oi.dst v) w → Q (.panic c) a w) (hy : YieldsIf P ops S oi v a) (hS : S w)
    (h : wpAnyG P md ops Q S st fuel (listed.setIfInBounds i true) (a.put oi.dst v) w) : wpAnyG P md ops Q S st (fuel + 1) listed a w :=
  last_first hi (Region.noSelect_spec hs) hQ (fun o ho => by
    unfold waits at hw
    rw [ho] at hw
    obtain ⟨e, he, hb⟩ := Array.any_eq_true'.1 hw
    rw [Bool.and_eq_true] at hb
    exact ⟨e, he, hb.1, by simpa using hb.2⟩) fuel listed a w (Region.free_spec hi hf) (by simpa using hr) hy hS h
theorem wpAnyG_done {listed : Array Bool} {a : Act} {w : World} (hr : Region.ready md ops listed = []) (h : Q .normal a w) :
    ∀ fuel, wpAnyG P md ops Q S st fuel listed a w
  | 0 => ⟨hr, h⟩
  | _ + 1 => ⟨fun _ => h, by rw [hr]; simp⟩
/-- The one that alone may come up. -/
theorem wpAnyG_one {i : Nat} {o : Oper} {fuel : Nat} {listed : Array Bool} {a : Act} {w : World} (hr : Region.ready md ops listed = [i]) (ho : ops[i]? = some o)
    (h : ∀ K' : Act → World → Prop, Shut (∀ a w, (i ≠ st → S w) → wpAnyG P md ops Q S st fuel (listed.setIfInBounds i true) a w → K' a w) → if Region.wanted o (yielded ops a.tmps) = true then Oper.wp P o a w K' Q else K' (a.put o.dst undef) w) : wpAnyG P md ops Q S st (fuel + 1) listed a w :=
  ⟨fun h0 => (by rw [hr] at h0; cases h0), fun j hj => by
    rw [hr] at hj
    obtain rfl := List.mem_singleton.1 hj
    exact wpOp_step ho (fun K' hK => h K' (fun a w hS hW => hK a w ⟨hS, hW⟩))⟩
theorem region_last {id : Nat} {a : Act} {w : World} (S : World → Prop) (st : Nat) (hm : P.follows .mixedOrders = true) (hS : S w.drew)
    (h : S w.drew → wpAnyG P .any ops Q S st ops.size (Array.replicate ops.size false) a w.drew) : (Code.region id ops true).wp P Q a w :=
  wp_region_any hm (any_of_last _ _ _ _ (h hS))
end
end Go.Proofs.YtlalgaioiapjmaaGreatDoor
