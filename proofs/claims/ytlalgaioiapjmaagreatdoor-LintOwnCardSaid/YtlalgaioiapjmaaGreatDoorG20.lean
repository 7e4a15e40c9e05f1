/- The web in memory: its names, their places, its edges. The walks of slices.Clone, slices.Grow and slices.Concat at terms and literals. The walks of the law's ownAtom and marked; what a rule of one's own is. Printed by mk_klw.py. The walk of the law's copied: a program of one's own, a mark behind each list. -/
import Derived.Test.YtlalgaioiapjmaaGreatDoorG4
import Derived.Test.YtlalgaioiapjmaaGreatDoorG5
import Derived.Test.YtlalgaioiapjmaaGreatDoorG12
import Derived.Test.YtlalgaioiapjmaaGreatDoorG19
import Derived.Shelf.Spec.SlicesGrow
namespace Go.Proofs.YtlalgaioiapjmaaGreatDoor
open Go.ChangeShapes Go.WideShapes Go.ChangeAt Go.RowKit Go.Sort
open K (AL Rule checkP)
section
variable {w W W' : World} {wb mi mq : Nat} {ns es : Value} {N : AL Nat} {Q : PL}
theorem WvSt.set0 (h : WvSt w wb mi mq ns es N Q W) (v : Value) : WvSt w wb mi mq v es N Q (W.setCell ⟨wb, 0, none⟩ v) := by
  have hs := h.sep
  have b : ButS (fun x => x = wb) W (W.setCell ⟨wb, 0, none⟩ v) := (ButS.refl (fun x => x = wb) W).set (.inl rfl) _ _
  exact ⟨ext_of_but h.ext b (fun x hx q => by omega), h.nm.but b (by omega), h.pq.but b (by omega), h.web.set 0 v, hs⟩
theorem WvSt.set2 (h : WvSt w wb mi mq ns es N Q W) (v : Value) : WvSt w wb mi mq ns v N Q (W.setCell ⟨wb, 2, none⟩ v) := by
  have hs := h.sep
  have b : ButS (fun x => x = wb) W (W.setCell ⟨wb, 2, none⟩ v) := (ButS.refl (fun x => x = wb) W).set (.inl rfl) _ _
  exact ⟨ext_of_but h.ext b (fun x hx q => by omega), h.nm.but b (by omega), h.pq.but b (by omega), h.web.set 2 v, hs⟩
theorem WvSt.but {S : Nat → Prop} (h : WvSt w wb mi mq ns es N Q W) (b : ButS S W W') (h1 : ¬ S wb) (h2 : ¬ S mi) (h3 : ¬ S mq) (h4 : ∀ x, x < w.heap.size → ¬ S x) : WvSt w wb mi mq ns es N Q W' :=
  ⟨ext_of_but h.ext b h4, h.nm.but b h2, h.pq.but b h3, h.web.but b h1, h.sep⟩
end
theorem LMap.ne {α : Type} {kenc : α → Value} {ok : α → Prop} {w : World} {b : Nat} {l : List (α × Value)} (h : LMap kenc ok w b l) {p : Addr} {v : Value} (hp : w.cell? p = some v) : p.block ≠ b := by
  intro e
  obtain ⟨es, clock, h1, _⟩ := h
  rw [← e] at h1
  simp [World.cell?, h1] at hp
theorem AMap.okk {w : World} {b : Nat} {a : AL Nat} (h : AMap w b a) {x : ByteArray} (hx : x ∈ a.map (·.1)) : okS x := by
  obtain ⟨es, clock, _, _, _, h4, _⟩ := h
  obtain ⟨p, hp, rfl⟩ := List.mem_map.1 hx
  exact h4 (p.1, numV p.2) (List.mem_map.2 ⟨p, hp, rfl⟩)
theorem getL_putL {α β : Type} [DecidableEq α] (l : List (α × β)) (k x : α) (v : β) : getL (putL l k v) x = if k = x then some v else getL l x := by
  induction l with
  | nil => rfl
  | cons p l ih =>
    obtain ⟨a, b⟩ := p
    unfold putL
    by_cases h : a = k
    · rw [if_pos h]
      unfold getL
      subst h
      by_cases h2 : a = x
      · rw [if_pos h2, if_pos h2]
      · rw [if_neg h2, if_neg h2, if_neg h2]
    · rw [if_neg h]
      unfold getL
      by_cases h2 : a = x
      · have h3 : ¬ k = x := fun e => h (h2.trans e.symm)
        rw [if_pos h2, if_neg h3, if_pos h2]
      · rw [if_neg h2, if_neg h2, ih]
/-- The names ahead of place i have their places. -/
def IdxI (ns : List ByteArray) (N : AL Nat) (i : Nat) (N' : AL Nat) : Prop := N'.map (·.1) = N.map (·.1) ∧ ∀ j x, j < i → ns[j]? = some x → getL N' x = some j
theorem IdxI.step {ns : List ByteArray} {N N' : AL Nat} {i : Nat} (h : IdxI ns N i N') (hnd : ns.Nodup) (hsub : ∀ x ∈ ns, x ∈ N.map (·.1)) {x : ByteArray} (hx : ns[i]? = some x) : IdxI ns N (i + 1) (putL N' x i) := by
  refine ⟨?_, fun j y hj hy => ?_⟩
  · rw [putL_keys, if_pos (by rw [h.1]; exact hsub x (List.mem_of_getElem? hx)), h.1]
  · rw [getL_putL]
    by_cases e : x = y
    · rw [if_pos e]
      have hi := (List.getElem?_eq_some_iff.1 hx).1
      have : i = j := (List.getElem?_inj hi hnd).1 (by rw [hx, hy, e])
      rw [this]
    · rw [if_neg e]
      refine h.2 j y ?_ hy
      rcases Nat.lt_or_ge j i with h1 | h1
      · exact h1
      · have : j = i := by omega
        rw [this, hx] at hy
        cases hy
        exact absurd rfl e
def posM (ns : List ByteArray) (x : ByteArray) : Option Nat := if x ∈ ns then some (ns.idxOf x) else none
theorem IdxI.done {ns : List ByteArray} {N N' : AL Nat} (h : IdxI ns N ns.length N') (hsub : ∀ x ∈ N.map (·.1), x ∈ ns) (x : ByteArray) : getL N' x = posM ns x := by
  unfold posM
  by_cases hx : x ∈ ns
  · rw [if_pos hx]
    have hl := List.idxOf_lt_length_of_mem hx
    exact h.2 _ x hl (List.getElem?_eq_some_iff.2 ⟨hl, List.getElem_idxOf hl⟩)
  · rw [if_neg hx]
    exact getL_none.2 fun q => hx (hsub x (by rw [← h.1]; exact q))
/-- The web as it is answered. -/
structure WebV (rs : List Rule) (lo wb : Nat) (W : World) : Prop where
  lo : lo ≤ wb
  ex : ∃ an n cn mi ae ne ce N', Blk W wb 82 [.slice an n cn, .map (some mi), .slice ae ne ce] ∧ K.StrsAt W an n (namesQ rs) ∧ AMap W mi N' ∧ (∀ x, K.lookA N' x = posM (namesQ rs) x) ∧ EdgesAt W ae ne (edgesQ rs)
theorem WebV.ext {rs : List Rule} {lo wb : Nat} {W W' : World} (h : WebV rs lo wb W) (e : Ext W W') : WebV rs lo wb W' := by
  obtain ⟨an, n, cn, mi, ae, ne, ce, N', h1, h2, h3, h4, h5⟩ := h.ex
  exact ⟨h.lo, an, n, cn, mi, ae, ne, ce, N', h1.ext e, h2.keep e, h3.ext e, h4, h5.keep e⟩
theorem sortWorld_but (enc : K.Edge → List Value) (w : World) (blk off n : Nat) (d : Array K.Edge) (os : Array Obj) : ButS (fun x => x = blk) w (sortWorldK enc 3 w blk off n d os) := by
  unfold sortWorldK putRowK
  refine ⟨rfl, rfl, rfl, by simp, fun k hk hne => ?_⟩
  rw [heap_grow_old _ _ (by simpa using hk)]
  have : blk ≠ k := fun e => hne e.symm
  simp [putRow, mapBlock, Sort.ahead, Array.getElem?_modify, this]
/-- A row of edges that is held as an array. -/
theorem holds_edges {w : World} {base g n cap : Nat} {l : List K.Edge} (h : w.ownsRow base 110 3 (.slice (some ⟨g, 0, none⟩) n cap) n (edgesC l)) : HoldsK encE 3 w g 0 l.toArray := by
  obtain ⟨cur, hg⟩ : ∃ cur, w.heap[g]? = some (.cells cur 110 (0, 0)) := by
    rcases h.2 with ⟨h1, h0⟩ | ⟨g', c', cur, hv, _, hg, _⟩
    · cases h1
    · cases hv
      exact ⟨_, hg⟩
  intro j hj
  have hj' : j < l.length * 3 := by simpa using hj
  refine ⟨?_, by simp [World.frozen?, hg]⟩
  rw [get_flatK _ _ _ _ (by simpa using hj')]
  have h1 : j / 3 < l.length := by omega
  have h2 : j % 3 < 3 := Nat.mod_lt _ (by omega)
  have h3 := edgesC_get l (j / 3) (j % 3) l[j / 3] (List.getElem?_eq_getElem h1) h2
  rw [show j / 3 * 3 + j % 3 = j by omega] at h3
  have h4 : (edgeC l[j / 3])[j % 3]? = some ((encE l.toArray[j / 3]!)[j % 3]!) := by
    have e : l.toArray[j / 3]! = l[j / 3] := by simp [h1]
    rw [e]
    show (encE l[j / 3])[j % 3]? = _
    have hl : j % 3 < (encE l[j / 3]).length := by simpa [encE] using h2
    rw [List.getElem?_eq_getElem hl, getElem!_pos (encE l[j / 3]) (j % 3) hl]
  rw [h4] at h3
  have := h.cells (g := g) rfl j _ h3
  rw [Addr.add_lit] at this
  simpa using this
/-- .. and read again. -/
theorem edges_held {w : World} {g off : Nat} {d : Array K.Edge} (h : HoldsK encE 3 w g off d) (hn : d.size ≤ 1048576) : EdgesAt w (some ⟨g, off, none⟩) d.size d.toList := by
  refine ⟨hn, by simp, fun i x hx => ?_⟩
  have hi : i < d.size := by simpa using (List.getElem?_eq_some_iff.1 hx).1
  have e : d[i]! = x := by
    rw [getElem!_pos d i hi]
    have := (List.getElem?_eq_some_iff.1 hx).2
    simpa using this
  have c0 := (h.cell hi (c := 0) (by omega)).1
  have c1 := (h.cell hi (c := 1) (by omega)).1
  have c2 := (h.cell hi (c := 2) (by omega)).1
  rw [e] at c0 c1 c2
  exact ⟨g, off, rfl, c0, c1, c2⟩
def edgeV (ns : List ByteArray) (p : (ByteArray × ByteArray) × Value) : K.Edge := ⟨(ns.idxOf p.1.1 : Nat), (ns.idxOf p.1.2 : Nat), intOf p.2⟩
theorem edgeV_map (ns : List ByteArray) (Q : PL) : (Q.map fun p => (p.1, numV p.2)).map (edgeV ns) = Q.map (edgeQ ns) := by
  rw [List.map_map]
  exact List.map_congr_left fun p _ => rfl
/-- The edges so far. -/
structure EdSt (w : World) (wb mi mq rb i : Nat) (an : Option Addr) (cn B1 : Nat) (ns : List ByteArray) (N : AL Nat) (Q : PL) (done left : List ((ByteArray × ByteArray) × Value)) (ae : Option Addr) (ce : Nat) (W : World) : Prop where
  st : WvSt w wb mi mq (.slice an i cn) (.slice ae done.length ce) N Q W
  it : ItSt pairV okP W rb mq (Q.map fun p => (p.1, numV p.2)) done left
  own : W.ownsRow w.heap.size 110 3 (.slice ae done.length ce) done.length (edgesC (done.map (edgeV ns)))
  nms : W.ownsRow B1 9 1 (.slice an i cn) i (ns.map Value.string)
  sep : w.heap.size ≤ rb ∧ wb ≠ rb ∧ mi ≠ rb ∧ mq ≠ rb
theorem own_ne_map {w : World} {base n size b : Nat} {e : TypeId} {v : Value} {xs : List Value} (h : w.ownsRow base e size v n xs) {es : Array MapEntry} {c : Nat} (hm : w.heap[b]? = some (.map es c)) : v.ownBlock ≠ some b := fun q => by
  obtain ⟨cs, x, hc⟩ := own_ty h q
  rw [hm] at hc
  cases hc
section
variable {w : World} {wb mi mq rb i : Nat} {an : Option Addr} {cn B1 : Nat} {ns : List ByteArray} {N : AL Nat} {Q : PL} {done left : List ((ByteArray × ByteArray) × Value)} {ae : Option Addr} {ce : Nat} {W W' : World}
theorem ItSt.rblk {α : Type} {kenc : α → Value} {ok : α → Prop} {w : World} {r b : Nat} {l done left : List (α × Value)} (h : ItSt kenc ok w r b l done left) : ∃ a s c d, w.heap[r]? = some (.mapIter a s c d) := by
  obtain ⟨es, clock, since, seen, c0, h1, h2, h3, h4, h5, h6, _⟩ := h
  exact ⟨_, _, _, _, h6⟩
theorem ItSt.ext {α : Type} {kenc : α → Value} {ok : α → Prop} {w w' : World} {r b : Nat} {l done left : List (α × Value)} (h : ItSt kenc ok w r b l done left) (e : Ext w w') : ItSt kenc ok w' r b l done left := by
  obtain ⟨_, _, _, _, h6⟩ := h.rblk
  exact h.block (e.block b h.lmap.lt) (e.block r (Array.getElem?_eq_some_iff.1 h6).1)
theorem ItSt.but {α : Type} {kenc : α → Value} {ok : α → Prop} {w w' : World} {r b : Nat} {l done left : List (α × Value)} (h : ItSt kenc ok w r b l done left) {S : Nat → Prop} (e : ButS S w w') (h1 : ¬ S b) (h2 : ¬ S r) : ItSt kenc ok w' r b l done left := by
  obtain ⟨_, _, _, _, h6⟩ := h.rblk
  exact h.block (e.block b h.lmap.lt h1) (e.block r (Array.getElem?_eq_some_iff.1 h6).1 h2)
theorem EdSt.up (h : EdSt w wb mi mq rb i an cn B1 ns N Q done left ae ce W) (e : Ext W W') : EdSt w wb mi mq rb i an cn B1 ns N Q done left ae ce W' :=
  ⟨h.st.up e, h.it.ext e, up_ext h.own e, up_ext h.nms e, h.sep⟩
/-- The range goes on. -/
theorem EdSt.next (h : EdSt w wb mi mq rb i an cn B1 ns N Q done left ae ce W) (e : ButS (fun x => x = rb) W W') : WvSt w wb mi mq (.slice an i cn) (.slice ae done.length ce) N Q W' ∧ W'.ownsRow w.heap.size 110 3 (.slice ae done.length ce) done.length (edgesC (done.map (edgeV ns))) ∧ W'.ownsRow B1 9 1 (.slice an i cn) i (ns.map Value.string) := by
  obtain ⟨_, _, _, _, h6⟩ := h.it.rblk
  have hs := h.sep
  have nr : ∀ {base n size : Nat} {e : TypeId} {v : Value} {xs : List Value}, W.ownsRow base e size v n xs → ∀ b, v.ownBlock = some b → ¬ b = rb := fun ho b hb q => by
    subst q
    obtain ⟨cs, x, hc⟩ := own_ty ho hb
    rw [h6] at hc
    cases hc
  exact ⟨h.st.but e hs.2.1 hs.2.2.1 hs.2.2.2 (fun x hx q => by omega), e.own h.own (nr h.own), e.own h.nms (nr h.nms)⟩
end
/-- One edge more. -/
theorem ed_push {w : World} {wb mi mq rb i : Nat} {an : Option Addr} {cn B1 : Nat} {ns : List ByteArray} {N : AL Nat} {Q : PL} {done left : List ((ByteArray × ByteArray) × Value)} {ae : Option Addr} {ce : Nat} {W w6 : World} {p : (ByteArray × ByteArray) × Value} {g c : Nat} {o : Obj}
    (st : WvSt w wb mi mq (.slice an i cn) (.slice ae done.length ce) N Q W) (it : ItSt pairV okP W rb mq (Q.map fun p => (p.1, numV p.2)) (done ++ [p]) left)
    (own : W.ownsRow w.heap.size 110 3 (.slice ae done.length ce) done.length (edgesC (done.map (edgeV ns)))) (nms : W.ownsRow B1 9 1 (.slice an i cn) i (ns.map Value.string)) (sep : w.heap.size ≤ rb ∧ wb ≠ rb ∧ mi ≠ rb ∧ mq ≠ rb)
    (own6 : w6.ownsRow w.heap.size 110 3 (.slice (some ⟨g, 0, none⟩) (done.length + 1) c) (done.length + 1) (edgesC (done.map (edgeV ns)) ++ edgeC (edgeV ns p))) (grow : (W.alloc o).grownBy w6 (Value.slice ae done.length ce).ownBlock) :
    w6.cell? ⟨wb, 2, none⟩ = some (.slice ae done.length ce) ∧ w6.frozen? ⟨wb, 2, none⟩ = false ∧ EdSt w wb mi mq rb i an cn B1 ns N Q (done ++ [p]) left (some ⟨g, 0, none⟩) c (w6.setCell ⟨wb, 2, none⟩ (.slice (some ⟨g, 0, none⟩) (done.length + 1) c)) := by
  have b6 : ButS (fun b => (Value.slice ae done.length ce).ownBlock = some b) W w6 := ((ButS.refl _ W).alloc o).grown grow (fun b e => .inl e)
  obtain ⟨_, _, hmi, _⟩ := st.nm
  obtain ⟨_, _, hmq, _⟩ := st.pq
  obtain ⟨_, _, _, _, hrb⟩ := it.rblk
  have n1 : ¬ (Value.slice ae done.length ce).ownBlock = some wb := fun e => (own_ty own e).ne st.web.ty (by decide) rfl
  have n2 := own_ne_map own hmi
  have n3 := own_ne_map own hmq
  have n4 : ¬ (Value.slice ae done.length ce).ownBlock = some rb := fun e => by
    obtain ⟨cs, x, hc⟩ := own_ty own e
    rw [hrb] at hc
    cases hc
  have st6 := st.but b6 n1 n2 n3 (fun x hx e => by have := (own.lt x e).1; omega)
  have it6 := it.but b6 n3 n4
  have nm6 := b6.own nms (fun b hb e => (own_ty nms hb).ne (own_ty own e) (by decide) rfl)
  have gne : g ≠ wb := (own_ty own6 rfl).ne st6.web.ty (by decide)
  have b7 : ButS (fun x => x = wb) w6 (w6.setCell ⟨wb, 2, none⟩ (.slice (some ⟨g, 0, none⟩) (done.length + 1) c)) := (ButS.refl (fun x => x = wb) w6).set (.inl rfl) _ _
  have hs := st.sep
  have el : (done ++ [p]).length = done.length + 1 := by simp
  have ee : edgesC ((done ++ [p]).map (edgeV ns)) = edgesC (done.map (edgeV ns)) ++ edgeC (edgeV ns p) := by simp [edgesC]
  refine ⟨st6.web.cell rfl, st6.web.free 2, ?_, it6.but b7 (fun e => hs.2.2.2.2.2 e.symm) (fun e => sep.2.1 e.symm), ?_, b7.own nm6 (fun b hb e => ?_), sep⟩
  · rw [el]; exact st6.set2 _
  · rw [el, ee]
    exact b7.own own6 (fun b hb e => by
      cases hb
      exact gne e)
  · subst e
    exact (own_ty nm6 hb).ne st6.web.ty (by decide) rfl
end Go.Proofs.YtlalgaioiapjmaaGreatDoor
namespace Go.Proofs.YtlalgaioiapjmaaGreatDoor.K
open Go.ChangeShapes Go.WideShapes Go.ChangeAt Go.RowKit Go.Shelf
theorem info_lit : (Tryz.prog.info? 47).map (fun i => (i.zero, i.size, i.bytes)) = some (some (.agg #[.int .i64 0, .string ⟨#[]⟩, .slice none 0 0, .int .i64 0, .int .i64 0, .string ⟨#[]⟩, .int .i64 0, .string ⟨#[]⟩]), 8, 104) := by kernel_rfl
def litVals (l : Lit) (a : Option Addr) (n cap : Nat) : List Value :=
  [.int .i64 l.kind, .string l.atom.pred, .slice a n cap, .int .i64 l.op, .int .i64 l.left.kind, .string l.left.text, .int .i64 l.right.kind, .string l.right.text]
def growL_ren : Go.Shelf.Ren := ⟨fun | 4 => 104 | n => n, fun | 22 => 48 | 25 => 47 | 3 => 3 | 4 => 4 | 9 => 9 | 20 => 20 | 0 => 0 | n => n, fun | n => n⟩
theorem growL : Go.Proofs.Lays8.n4 Tryz.prog growL_ren := {
  mixed := by kernel_rfl
  f4 := ⟨Tryz.f104.name, by decide, Tryz.func104.trans (congrArg some (by kernel_rfl))⟩
  t0 := Tryz.underlying0
  a0 := Tryz.isAgg0
  z0 := Tryz.sizeOf0
  v0 := Tryz.zeroValue0
  t3 := Tryz.underlying3
  a3 := Tryz.isAgg3
  z3 := Tryz.sizeOf3
  v3 := Tryz.zeroValue3
  t4 := Tryz.underlying4
  a4 := Tryz.isAgg4
  z4 := Tryz.sizeOf4
  v4 := Tryz.zeroValue4
  t9 := Tryz.underlying9
  a9 := Tryz.isAgg9
  z9 := Tryz.sizeOf9
  v9 := Tryz.zeroValue9
  t20 := Tryz.underlying20
  a20 := Tryz.isAgg20
  z20 := Tryz.sizeOf20
  v20 := Tryz.zeroValue20
  t22 := Tryz.underlying48
  a22 := Tryz.isAgg48
  z22 := Tryz.sizeOf48
  v22 := Tryz.zeroValue48 }
/-- slices.Grow of the nil slice of literals: room of the call's own. -/
theorem c_growL (n : Nat) (w : World) (hn : n ≤ 1353245080303) : Calls Tryz.prog 104 #[.slice none 0 0, .int .i64 (n : Int)] w fun e w' => ∃ v, e = .returned v ∧ w'.ownsRow w.heap.size 47 8 v 0 [] ∧ Ext w w' := by
  cases n with
  | zero =>
    refine (Any8.slices_Grow_room growL none 0 0 0 w (Nat.le_refl _) (by decide) (by decide) (Nat.le_refl _)).mono ?_
    rintro e w' ⟨rfl, rfl⟩
    exact ⟨_, rfl, World.ownsRow_nil _ _ _ _, Below.refl _ _⟩
  | succ n =>
    obtain ⟨i0, hi, hz0, hz1, hz2⟩ := info_parts info_lit
    refine (Any8.slices_Grow_grow growL i0 _ hi hz0 (by rw [hz1]; decide) none 0 0 (n + 1) [] w (Nat.le_refl _) (by omega) (by rw [hz2]; omega) (by omega) (by simp) (fun _ => rfl) (fun a e => by cases e)).mono ?_
    rintro e w' ⟨rfl, rfl⟩
    have hge := grownCap_ge w (0 + (n + 1)) 0 (growL_ren.t 25)
    have hle := grownCap_le_maxLen w (0 + (n + 1)) 0 (growL_ren.t 25) (by unfold maxLen; omega)
    refine ⟨_, rfl, ⟨rfl, .inr ⟨w.heap.size, _, _, rfl, Nat.le_refl _, heap_alloc_new w.drew _, Nat.zero_le _, hle, ?_, by simp⟩⟩, ext_alloc (ext_drew (Below.refl _ _)) _⟩
    rw [Array.size_append, Array.size_append, size_zeroCells, size_zeroCells]
    show 0 + _ * 8 + _ * 8 = _ * 8
    omega
/-- A literal, and the address, length and room of its terms. -/
abbrev LitP := Lit × Option Addr × Nat × Nat
def valsP (p : LitP) : List Value := litVals p.1 p.2.1 p.2.2.1 p.2.2.2
def flatP (ps : List LitP) : List Value := ps.flatMap valsP
def okP (w : World) (p : LitP) : Prop := TermsAt w p.2.1 p.2.2.1 p.1.atom.terms ∧ capOk p.2.1 p.2.2.1 p.2.2.2 ∧ p.1.atom.pred.size ≤ maxLen ∧ p.1.left.text.size ≤ maxLen ∧ p.1.right.text.size ≤ maxLen
theorem okP.keep {W w : World} (hb : Ext W w) {p : LitP} (h : okP W p) : okP w p := ⟨h.1.keep hb, h.2⟩
theorem flatP_len (ps : List LitP) : (flatP ps).length = ps.length * 8 := by
  induction ps with
  | nil => rfl
  | cons t ts ih => simp only [flatP, valsP, litVals, List.flatMap_cons, List.length_append, List.length_cons, List.length_nil] at ih ⊢; omega
theorem flatP_append (a b : List LitP) : flatP (a ++ b) = flatP a ++ flatP b := by simp [flatP]
theorem flatP_one (ps : List LitP) : ∀ u ∈ flatP ps, u.oneCell' = true := by
  intro u hu
  obtain ⟨p, _, h⟩ := List.mem_flatMap.1 hu
  simp [valsP, litVals] at h
  rcases h with rfl | rfl | rfl | rfl | rfl | rfl | rfl | rfl <;> rfl
theorem flatP_get (ps : List LitP) (i j : Nat) (p : LitP) (h : ps[i]? = some p) (hj : j < 8) : (flatP ps)[i * 8 + j]? = (valsP p)[j]? := by
  induction ps generalizing i with
  | nil => simp at h
  | cons a ts ih =>
    have e : flatP (a :: ts) = valsP a ++ flatP ts := rfl
    cases i with
    | zero =>
      simp at h
      subst h
      rw [e, Nat.zero_mul, Nat.zero_add, List.getElem?_append_left (by simpa [valsP, litVals] using hj)]
    | succ i =>
      rw [e, show (i + 1) * 8 + j = (i * 8 + j) + 8 by omega, List.getElem?_append_right (by simp [valsP, litVals]), show (i * 8 + j) + 8 - (valsP a).length = i * 8 + j by simp [valsP, litVals]]
      exact ih i (by simpa using h)
/-- The literals of a slice with their terms' addresses. -/
theorem LitsAt.parts {w : World} {a : Option Addr} {n : Nat} {ls : List Lit} (h : LitsAt w a n ls) : ∃ ps : List LitP, ps.map (·.1) = ls ∧ (∀ p ∈ ps, okP w p) ∧ ∀ ad, a = some ad → ∀ j u, (flatP ps)[j]? = some u → w.cell? (ad.add j) = some u := by
  have hx : ∀ i : Fin ls.length, ∃ p : LitP, p.1 = ls[i] ∧ okP w p ∧ ∀ b off, a = some ⟨b, off, none⟩ → ∀ j u, (valsP p)[j]? = some u → w.cell? ⟨b, off + i * 8 + j, none⟩ = some u := by
    intro i
    obtain ⟨b, off, ha, a', n', cap, h0, h1, h2, h3, h4, h5, h6, h7, ht, hc, hr⟩ := h.2.2 i ls[i] (List.getElem?_eq_getElem i.2)
    refine ⟨(ls[i], a', n', cap), rfl, ⟨ht, hc, hr⟩, fun b' off' e j u hu => ?_⟩
    rw [ha] at e
    cases e
    have hj : j < 8 := (List.getElem?_eq_some_iff.1 hu).1
    match j, hj with
    | 0, _ => cases hu; exact h0
    | 1, _ => cases hu; exact h1
    | 2, _ => cases hu; exact h2
    | 3, _ => cases hu; exact h3
    | 4, _ => cases hu; exact h4
    | 5, _ => cases hu; exact h5
    | 6, _ => cases hu; exact h6
    | 7, _ => cases hu; exact h7
  let ps : List LitP := List.ofFn fun i => (hx i).choose
  have hps : ∀ (i : Nat) (hi : i < ls.length), ps[i]? = some (hx ⟨i, hi⟩).choose := by
    intro i hi
    simp [ps, hi]
  have hlen : ps.length = ls.length := by simp [ps]
  refine ⟨ps, ?_, ?_, ?_⟩
  · apply List.ext_getElem?
    intro i
    by_cases hi : i < ls.length
    · rw [List.getElem?_map, hps i hi, List.getElem?_eq_getElem hi]
      exact congrArg some (hx ⟨i, hi⟩).choose_spec.1
    · rw [List.getElem?_map, List.getElem?_eq_none (by omega), List.getElem?_eq_none (by omega)]
      rfl
  · intro p hp
    obtain ⟨i, hi⟩ := List.mem_iff_getElem?.1 hp
    have hil : i < ls.length := by rw [← hlen]; exact (List.getElem?_eq_some_iff.1 hi).1
    rw [hps i hil] at hi
    cases hi
    exact (hx ⟨i, hil⟩).choose_spec.2.1
  · intro ad e j u hu
    have hj := (List.getElem?_eq_some_iff.1 hu).1
    rw [flatP_len, hlen] at hj
    have hi : j / 8 < ls.length := by omega
    have hm : j % 8 < 8 := Nat.mod_lt _ (by decide)
    have hg := flatP_get ps (j / 8) (j % 8) _ (hps _ hi) hm
    rw [show j / 8 * 8 + j % 8 = j by omega, hu] at hg
    obtain ⟨b, off, ha, _⟩ := h.2.2 (j / 8) ls[j / 8] (List.getElem?_eq_getElem hi)
    have hc := (hx ⟨j / 8, hi⟩).choose_spec.2.2 b off ha (j % 8) u hg.symm
    rw [ha] at e
    cases e
    rw [Addr.add_lit, show off + j = off + (j / 8) * 8 + j % 8 by omega]
    exact hc
/-- A row of one's own that holds literals. -/
theorem own_litsP {w : World} {base n m cap : Nat} {a : Option Addr} {ps rest : List LitP} (h : w.ownsRow base 47 8 (.slice a m cap) m (flatP (ps ++ rest))) (hn : ps.length = n) (hb : n ≤ 1353245080303) (hp : ∀ p ∈ ps, okP w p) : LitsAt w a n (ps.map (·.1)) := by
  refine ⟨hb, by rw [List.length_map, hn], fun i l hl => ?_⟩
  rw [List.getElem?_map] at hl
  obtain ⟨p, hi, rfl⟩ := Option.map_eq_some_iff.1 hl
  have hil := (List.getElem?_eq_some_iff.1 hi).1
  have hmlen : m * 8 = (ps ++ rest).length * 8 := by have := h.1; rw [flatP_len] at this; omega
  rcases h.2 with ⟨_, h0⟩ | ⟨g, cap', cur, hv, hg0, hg, hc, hrest⟩
  · subst h0
    simp only [List.length_append, Nat.zero_mul] at hmlen
    omega
  · cases hv
    have C : ∀ j u, (valsP p)[j]? = some u → w.cell? ⟨g, 0 + i * 8 + j, none⟩ = some u := by
      intro j u hu
      have hj : j < 8 := (List.getElem?_eq_some_iff.1 hu).1
      have e := flatP_get (ps ++ rest) i j p (by rw [List.getElem?_append_left hil]; exact hi) hj
      have := h.cells (g := g) rfl (i * 8 + j) u (by rw [e]; exact hu)
      rw [Addr.add_lit] at this
      rw [show 0 + i * 8 + j = 0 + (i * 8 + j) by omega]
      exact this
    obtain ⟨l, a', n', c'⟩ := p
    obtain ⟨ht, hcap, hs⟩ := hp _ (List.mem_of_getElem? hi)
    exact ⟨g, 0, rfl, a', n', c', C 0 _ rfl, C 1 _ rfl, C 2 _ rfl, C 3 _ rfl, C 4 _ rfl, C 5 _ rfl, C 6 _ rfl, C 7 _ rfl, ht, hcap, hs⟩
theorem cap_of_own {w : World} {base e size n cap : Nat} {a : Option Addr} {xs : List Value} (h : w.ownsRow base e size (.slice a n cap) n xs) : capOk a n cap := by
  rcases h.2 with ⟨h1, h0⟩ | ⟨g, c', cur, hv, _, _, hc, _⟩
  · cases h1
    exact ⟨Nat.le_refl _, fun _ => ⟨rfl, rfl⟩⟩
  · cases hv
    exact ⟨hc, by intro h; cases h⟩
theorem nil_eqT (w : World) : (binOp .eql 43 (.slice none 0 0) (.slice none 0 0)).run Tryz.prog w = .ok (.bool true) w := by kernel_rfl
theorem some_eqT (ad : Addr) (n cap : Nat) (w : World) : (binOp .eql 43 (.slice (some ad) n cap) (.slice none 0 0)).run Tryz.prog w = .ok (.bool false) w := by kernel_rfl
set_option maxRecDepth 20000 in
theorem c_CloneT (ts : List Term) (a : Option Addr) (n cap : Nat) (w : World) (ha : TermsAt w a n ts) (hc : capOk a n cap) :
    Calls Tryz.prog 144 #[.slice a n cap] w fun e w' => ∃ a' c', e = .returned (.slice a' n c') ∧ w'.ownsRow w.heap.size 42 2 (.slice a' n c') n (flatT ts) ∧ Ext w w' := by
  have hn := ha.1
  have HA := Lib.hid ha
  have HC := Lib.hid hc
  clear ha hc
  cases a with
  | none =>
    obtain ⟨rfl, rfl⟩ := HC.out.2 rfl
    have eqn := nil_eqT
    go_enter Tryz.func144, Tryz.ntmps144
    go_wp2
    go_returns
    obtain rfl : ts = [] := List.eq_nil_of_length_eq_zero HA.out.2.1
    exact ⟨none, 0, rfl, World.ownsRow_nil _ _ _ _, Below.refl _ _⟩
  | some ad =>
    obtain ⟨i0, hi, hz0, hz1, hz2⟩ := info_parts info_term
    have hd3 : 0 + n ≤ maxLen := by unfold maxLen; omega
    have hd4 : (0 + n) * 24 ≤ 140737488355328 := by omega
    have hfl : (flatT ts).length = n * 2 := by rw [flatT_len, HA.out.2.1]
    have hown0 : (w.alloc (.cells #[] 42)).ownsRow w.heap.size 42 2 (.slice (some ⟨w.heap.size, 0, none⟩) 0 0) 0 [] := World.ownsRow_lit w #[] 0 (Nat.le_refl _) (by unfold maxLen; omega) rfl
    have hsrc : ∀ x, some ad = some x → ∀ j u, (flatT ts)[j]? = some u → (w.alloc (.cells #[] 42)).cell? (x.add j) = some u := fun x e => flatT_cell (HA.out.keep (ext_alloc (Below.refl _ _) _)) e
    have HF := Lib.hid hfl
    have H3 := Lib.hid hd3
    have H4 := Lib.hid hd4
    have HSRC := Lib.hid hsrc
    clear hfl hd3 hd4 hsrc
    have eqn := some_eqT ad n cap
    go_enter Tryz.func144, Tryz.ntmps144
    go_wp2_with (at_builtin; go_loud (refine wpList_append_any rfl _ _ 43 rfl w.heap.size 42 i0 (.agg #[.int .i64 0, .string ⟨#[]⟩]) 2 24 Tryz.underlying43 hi hz0 hz1 hz2 rfl (by decide) _ _ _ rfl hown0 (some ad) n cap (flatT ts) rfl HC.out.2 HF.out HSRC.out (flatT_one _) H3.out H4.out (size_alloc_le (Nat.le_refl _)) ?_); intro v1 w1 own1 g1)
    obtain ⟨a1, c1, rfl, _⟩ := own_form own1
    have hb := ext_ownB (ext_alloc (Below.refl _ w : Ext w w) _) g1 (by intro g e; cases e; exact Nat.le_refl _)
    go_returns
    rw [Nat.zero_add, List.nil_append] at own1
    exact ⟨a1, c1, by rw [Nat.zero_add]; rfl, own1, hb⟩
theorem c_growL2 (n m : Nat) (w : World) (hn : n + m ≤ 1353245080303) : Calls Tryz.prog 104 #[.slice none 0 0, .int .i64 ((n : Int) + (m : Int))] w fun e w' => ∃ v, e = .returned v ∧ w'.ownsRow w.heap.size 47 8 v 0 [] ∧ Ext w w' := Int.natCast_add n m ▸ c_growL (n + m) w hn
set_option maxRecDepth 20000 in
theorem c_Concat (ps qs : List LitP) (b : Nat) (a1 : Option Addr) (n1 c1 : Nat) (a2 : Option Addr) (n2 c2 : Nat) (w : World) (h1 : w.cell? ⟨b, 0, none⟩ = some (.slice a1 n1 c1)) (h2 : w.cell? ⟨b, 1, none⟩ = some (.slice a2 n2 c2)) (hl1 : ps.length = n1) (hl2 : qs.length = n2) (hn : n1 + n2 ≤ 1353245080303) (hc1 : a1 = none → n1 = 0 ∧ c1 = 0) (hc2 : a2 = none → n2 = 0 ∧ c2 = 0)
    (hp : ∀ ad, a1 = some ad → ∀ j u, (flatP ps)[j]? = some u → w.cell? (ad.add j) = some u) (hq : ∀ ad, a2 = some ad → ∀ j u, (flatP qs)[j]? = some u → w.cell? (ad.add j) = some u) :
    Calls Tryz.prog 73 #[.slice (some ⟨b, 0, none⟩) 2 2] w fun e w' => ∃ a' c', e = .returned (.slice a' (n1 + n2) c') ∧ w'.ownsRow w.heap.size 47 8 (.slice a' (n1 + n2) c') (n1 + n2) (flatP (ps ++ qs)) ∧ Ext w w' := by
  obtain ⟨i0, hi, hz0, hz1, hz2⟩ := info_parts info_lit
  have HP := Lib.hid hp
  have HQ := Lib.hid hq
  have C1 := Lib.hid hc1
  have C2 := Lib.hid hc2
  have L1 := Lib.hid hl1
  have L2 := Lib.hid hl2
  clear hp hq hc1 hc2 hl1 hl2
  go_enter Tryz.func73, Tryz.ntmps73
  go_wp2
  go_loopw [3, 11] (fun v i wj => ∃ k : Nat, k ≤ 2 ∧ i = .int .i64 (k : Int) ∧ v = .int .i64 ((if k = 0 then 0 else if k = 1 then n1 else n1 + n2 : Nat) : Int) ∧ wj = w) (fun _ i _ => 2 - (intOf i).toNat)
  case atStart => exact ⟨0, by omega, rfl, rfl, rfl⟩
  case round =>
    obtain ⟨k, hk, rfl, rfl, rfl⟩ := hrel
    have hk3 : k = 0 ∨ k = 1 ∨ k = 2 := by omega
    rcases hk3 with rfl | rfl | rfl
    · go_wp2
      go_roundw
      case rel => exact ⟨1, by omega, by go_num, by simp, by trivial⟩
      case measure => simp [intOf]
    · go_wp2
      go_roundw
      case rel => exact ⟨2, by omega, by go_num, by simp, by trivial⟩
      case measure => simp [intOf]
    · rw [show (if (2 : Nat) = 0 then 0 else if 2 = 1 then n1 else n1 + n2 : Nat) = n1 + n2 by simp]
      obtain ⟨U, rfl⟩ : ∃ U, U = wr := ⟨_, rfl⟩
      go_wp2_with (go_at_call 104; (with_reducible refine (c_growL2 n1 n2 U hn).mono ?_); rintro e w1 ⟨v1, rfl, own1, hb1⟩; have g1 := keep hb1 h1; have g2 := keep hb1 h2)
      have O1 := Lib.hid own1
      have B1 := Lib.hid hb1
      clear own1
      go_loopw [6, 27] (fun v i wj => ∃ k : Nat, k ≤ 2 ∧ i = .int .i64 (k : Int) ∧ Ext U wj ∧ wj.ownsRow U.heap.size 47 8 v (if k = 0 then 0 else if k = 1 then n1 else n1 + n2) (if k = 0 then [] else if k = 1 then flatP ps else flatP (ps ++ qs))) (fun _ i _ => 2 - (intOf i).toNat)
      case atStart => exact ⟨0, by omega, rfl, B1.out, O1.out⟩
      case round =>
        obtain ⟨k, hk, rfl, hb2, own2⟩ := hrel
        have g1 := keep hb2 h1
        have g2 := keep hb2 h2
        have hk3 : k = 0 ∨ k = 1 ∨ k = 2 := by omega
        rcases hk3 with rfl | rfl | rfl
        · simp only [if_true] at own2
          go_wp2_with (at_builtin; go_loud (refine wpList_append_any rfl _ _ 48 rfl U.heap.size 47 i0 (.agg #[.int .i64 0, .string ⟨#[]⟩, .slice none 0 0, .int .i64 0, .int .i64 0, .string ⟨#[]⟩, .int .i64 0, .string ⟨#[]⟩]) 8 104 Tryz.underlying48 hi hz0 hz1 hz2 rfl (by decide) _ _ _ rfl own2 a1 n1 c1 (flatP ps) rfl C1.out (by rw [flatP_len, L1.out]) (fun x e j u hu => keep hb2 (HP.out x e j u hu)) (flatP_one _) (by unfold maxLen; omega) (by omega) hb2.size ?_); intro v4 w4 own4 g4)
          go_roundw
          case rel => exact ⟨1, by omega, by go_num, ext_ownB hb2 g4 (fun g e => (own2.lt g e).1), by simpa using own4⟩
          case measure => simp [intOf]
        · simp only [if_true, if_neg (by decide : ¬ (1 : Nat) = 0)] at own2
          go_wp2_with (at_builtin; go_loud (refine wpList_append_any rfl _ _ 48 rfl U.heap.size 47 i0 (.agg #[.int .i64 0, .string ⟨#[]⟩, .slice none 0 0, .int .i64 0, .int .i64 0, .string ⟨#[]⟩, .int .i64 0, .string ⟨#[]⟩]) 8 104 Tryz.underlying48 hi hz0 hz1 hz2 rfl (by decide) _ _ _ rfl own2 a2 n2 c2 (flatP qs) rfl C2.out (by rw [flatP_len, L2.out]) (fun x e j u hu => keep hb2 (HQ.out x e j u hu)) (flatP_one _) (by unfold maxLen; omega) (by omega) hb2.size ?_); intro v4 w4 own4 g4)
          go_roundw
          case rel => exact ⟨2, by omega, by go_num, ext_ownB hb2 g4 (fun g e => (own2.lt g e).1), by simpa [flatP_append] using own4⟩
          case measure => simp [intOf]
        · simp only [if_neg (by decide : ¬ (2 : Nat) = 0), if_neg (by decide : ¬ (2 : Nat) = 1)] at own2
          obtain ⟨a', c', rfl, _⟩ := own_form own2
          go_wp2
          go_returns
          exact ⟨a', c', rfl, own2, hb2⟩
end Go.Proofs.YtlalgaioiapjmaaGreatDoor.K
namespace Go.Proofs.YtlalgaioiapjmaaGreatDoor.K
open Go.ChangeShapes Go.WideShapes Go.ChangeAt Go.RowKit
set_option maxRecDepth 20000 in
theorem c_ownAtom (a : Atom) (aa : Option Addr) (n cap : Nat) (w : World) (ha : TermsAt w aa n a.terms) (hc : capOk aa n cap) :
    Calls Tryz.prog 13 #[.agg #[.string a.pred, .slice aa n cap]] w fun e w' => ∃ g c, e = .returned (.agg #[.string a.pred, .slice (some ⟨g, 0, none⟩) n c]) ∧ OwnT w' w.heap.size a.terms g c ∧ Ext w w' := by
  have hn := ha.1
  have HA := Lib.hid ha
  have HL := Lib.hid ha.2.1
  have HC := Lib.hid hc
  clear ha hc
  obtain ⟨i0, hi, hz0, hz1, hz2⟩ := info_parts info_term
  have hd3 : 0 + n ≤ maxLen := by unfold maxLen; omega
  have hd4 : (0 + n) * 24 ≤ 140737488355328 := by omega
  have hfl : (flatT a.terms).length = n * 2 := by rw [flatT_len, HL.out]
  have HF := Lib.hid hfl
  have H3 := Lib.hid hd3
  have H4 := Lib.hid hd4
  have HN := Lib.hid hn
  clear hfl hd3 hd4 hn
  go_enter Tryz.func13, Tryz.ntmps13
  go_upto_region 1 with (fail)
  refine wp_gen (fun W hW => ?_)
  have hb0 : Ext w W := by rw [hW]; go_grown
  have x0 : W.cell? ⟨w.heap.size, 0, none⟩ = some (.string a.pred) := by rw [hW]; go_simp
  have x1 : W.cell? ⟨w.heap.size, 1, none⟩ = some (.slice aa n cap) := by rw [hW]; go_simp
  have xz : W.cell? ⟨w.heap.size + 1, 0, none⟩ = some (.string ⟨#[]⟩) := by rw [hW]; go_simp
  have xz1 : W.cell? ⟨w.heap.size + 1, 1, none⟩ = some (.slice none 0 0) := by rw [hW]; go_simp
  have hz : w.heap.size + 1 < W.heap.size := World.block_lt_of_cell? _ _ xz
  have hz' : w.heap.size < W.heap.size := by omega
  have f1 : W.frozen? ⟨w.heap.size, 1, none⟩ = false := by rw [hW]; go_simp
  have f2 : W.frozen? ⟨w.heap.size + 1, 0, none⟩ = false := by rw [hW]; go_simp
  have f3 : W.frozen? ⟨w.heap.size + 1, 1, none⟩ = false := by rw [hW]; go_simp
  clear hW
  have hown0 : (W.alloc (.cells #[] 42)).ownsRow W.heap.size 42 2 (.slice (some ⟨W.heap.size, 0, none⟩) 0 0) 0 [] := World.ownsRow_lit W #[] 0 (Nat.le_refl _) (by unfold maxLen; omega) rfl
  have hsrc : ∀ ad, aa = some ad → ∀ j u, (flatT a.terms)[j]? = some u → (W.alloc (.cells #[] 42)).cell? (ad.add j) = some u := fun ad e => flatT_cell (HA.out.keep (ext_alloc hb0 _)) e
  have HSRC := Lib.hid hsrc
  clear hsrc
  have hk1 : (0 + n) + 1 ≤ maxLen := by have := HN.out; unfold maxLen; omega
  have hk2 : ((0 + n) + 1) * 24 ≤ 140737488355328 := by have := HN.out; omega
  have K1 := Lib.hid hk1
  have K2 := Lib.hid hk2
  clear hk1 hk2
  go_wp2_with (first | (at_builtin; refine wpList_append_any rfl _ _ 43 rfl W.heap.size 42 i0 (.agg #[.int .i64 0, .string ⟨#[]⟩]) 2 24 Tryz.underlying43 hi hz0 hz1 hz2 rfl (by decide) _ _ _ rfl hown0 aa n cap (flatT a.terms) rfl HC.out.2 HF.out HSRC.out (flatT_one _) H3.out H4.out (size_alloc_le (Nat.le_refl _)) ?_; intro v1 w1 own1 g1) | (at_builtin; go_loud (refine wpList_append_any rfl _ _ 43 rfl W.heap.size 42 i0 (.agg #[.int .i64 0, .string ⟨#[]⟩]) 2 24 Tryz.underlying43 hi hz0 hz1 hz2 rfl (by decide) _ _ _ rfl (own1.alloc _) (some ⟨w1.heap.size, 0, none⟩) 1 1 (flatT [markT]) rfl (by intro h; cases h) rfl (mark_cell w1) (flatT_one _) K1.out K2.out (size_alloc_le (Nat.le_trans (size_alloc_le (Nat.le_refl _)) g1.size)) ?_); intro v2 w2 own2 g2; have hb2 : Ext W w2 := ext_ownB (ext_alloc (ext_ownB (ext_alloc (Below.refl _ W : Ext W W) _) g1 (by intro g e; cases e; exact Nat.le_refl _)) _) g2 (fun g e => (own1.lt g e).1); have y0 := keep hb2 x0; have y1 := keep hb2 x1; have yz := keep hb2 xz; have yz1 := keep hb2 xz1; have hz2' := Nat.lt_of_lt_of_le hz hb2.size; have hz2 := Nat.lt_of_lt_of_le hz' hb2.size; have k1 := (hb2.frozen (p := ⟨w.heap.size, 1, none⟩) hz').trans f1; have k2 := (hb2.frozen (p := ⟨w.heap.size + 1, 0, none⟩) hz).trans f2; have k3 := (hb2.frozen (p := ⟨w.heap.size + 1, 1, none⟩) hz).trans f3; obtain ⟨a2, c2, rfl, hc2⟩ := own_form own2))
  have O1 := ownsRow_setCell_below own2 (a := ⟨w.heap.size, 1, none⟩) hz' (.slice a2 n c2)
  have O2 := ownsRow_setCell_below O1 (a := ⟨w.heap.size + 1, 0, none⟩) hz (.string a.pred)
  have O3 := ownsRow_setCell_below O2 (a := ⟨w.heap.size + 1, 1, none⟩) hz (.slice a2 n c2)
  have E3 : Ext w (((w2.setCell ⟨w.heap.size, 1, none⟩ (.slice a2 n c2)).setCell ⟨w.heap.size + 1, 0, none⟩ (.string a.pred)).setCell ⟨w.heap.size + 1, 1, none⟩ (.slice a2 n c2)) :=
    ext_set (ext_set (ext_set (ext_trans hb0 hb2) (Nat.le_refl _) _) (Nat.le_succ _) _) (Nat.le_succ _) _
  obtain ⟨g, c3, e3, hg1⟩ := own_formS O3 (Nat.succ_pos _)
  cases e3
  obtain ⟨R0, R1⟩ := set2_read (b := w.heap.size) (c := w.heap.size + 1) (by omega) yz yz1 (.slice (some ⟨g, 0, none⟩) n c2) (.string a.pred)
  have S1 := World.cell?_setCell_same _ _ (.slice (some ⟨g, 0, none⟩) n c2) R1
  have S0 : (((w2.setCell ⟨w.heap.size, 1, none⟩ (.slice (some ⟨g, 0, none⟩) n c2)).setCell ⟨w.heap.size + 1, 0, none⟩ (.string a.pred)).setCell ⟨w.heap.size + 1, 1, none⟩ (.slice (some ⟨g, 0, none⟩) n c2)).cell? ⟨w.heap.size + 1, 0, none⟩ = some (.string a.pred) := by
    rw [World.cell?_setCell_other]; exact R0; simp
  clear R0 R1 O1 O2
  generalize (((w2.setCell ⟨w.heap.size, 1, none⟩ (.slice (some ⟨g, 0, none⟩) n c2)).setCell ⟨w.heap.size + 1, 0, none⟩ (.string a.pred)).setCell ⟨w.heap.size + 1, 1, none⟩ (.slice (some ⟨g, 0, none⟩) n c2)) = W4 at O3 E3 S0 S1 ⊢
  refine bodyPost_ret (by simp [results, Tryz.results13, go_sem, S0, S1]; try rfl) rfl ?_
  refine ⟨g, c2, rfl, ⟨own_base (base := W.heap.size) ?_ hb0.size, ?_⟩, E3⟩
  · rw [HL.out, flatT_append]; simpa using O3
  · rw [HL.out]; omega
def litCells (p : Lit × Nat × Nat) : List Value :=
  [.int .i64 p.1.kind, .string p.1.atom.pred, .slice (some ⟨p.2.1, 0, none⟩) p.1.atom.terms.length p.2.2, .int .i64 p.1.op, .int .i64 p.1.left.kind, .string p.1.left.text, .int .i64 p.1.right.kind, .string p.1.right.text]
def flatL (ps : List (Lit × Nat × Nat)) : List Value := ps.flatMap litCells
def markL : List Value := [.int .i64 (-77), .string ⟨#[]⟩, .slice none 0 0, .int .i64 0, .int .i64 0, .string ⟨#[]⟩, .int .i64 0, .string ⟨#[]⟩]
theorem flatL_len (ps : List (Lit × Nat × Nat)) : (flatL ps).length = ps.length * 8 := by
  induction ps with
  | nil => rfl
  | cons t ts ih => simp only [flatL, litCells, List.flatMap_cons, List.length_append, List.length_cons, List.length_nil] at ih ⊢; omega
theorem flatL_snoc (ps : List (Lit × Nat × Nat)) (p : Lit × Nat × Nat) : flatL (ps ++ [p]) = flatL ps ++ litCells p := by simp [flatL]
theorem flatL_get (ps : List (Lit × Nat × Nat)) (i j : Nat) (p : Lit × Nat × Nat) (h : ps[i]? = some p) (hj : j < 8) : (flatL ps)[i * 8 + j]? = (litCells p)[j]? := by
  induction ps generalizing i with
  | nil => simp at h
  | cons a ts ih =>
    have e : flatL (a :: ts) = litCells a ++ flatL ts := rfl
    cases i with
    | zero =>
      simp at h
      subst h
      rw [e, Nat.zero_mul, Nat.zero_add, List.getElem?_append_left (by simpa [litCells] using hj)]
    | succ i =>
      rw [e, show (i + 1) * 8 + j = (i * 8 + j) + 8 by omega, List.getElem?_append_right (by simp [litCells]), show (i * 8 + j) + 8 - (litCells a).length = i * 8 + j by simp [litCells]]
      exact ih i (by simpa using h)
theorem cells8_at {w : World} {g : Nat} (u0 u1 u2 u3 u4 u5 u6 u7 : Value) (t : TypeId) (hg : g = w.heap.size) : ∀ ad, some (⟨g, 0, none⟩ : Addr) = some ad → ∀ j u, [u0, u1, u2, u3, u4, u5, u6, u7][j]? = some u → (w.alloc (.cells #[u0, u1, u2, u3, u4, u5, u6, u7] t)).cell? (ad.add j) = some u := by
  intro ad e j u hu
  cases e
  subst hg
  rw [Addr.add_lit, World.cell?_alloc_new, Nat.zero_add]
  simpa using hu
/-- A row of literals of one's own, the mark behind it. -/
def OwnL (w : World) (base : Nat) (ps : List (Lit × Nat × Nat)) (g cap : Nat) : Prop :=
  w.ownsRow base 47 8 (.slice (some ⟨g, 0, none⟩) (ps.length + 1) cap) (ps.length + 1) (flatL ps ++ markL) ∧ ps.length + 1 ≤ cap
def OwnTs (w : World) (base : Nat) (ps : List (Lit × Nat × Nat)) : Prop := ∀ p ∈ ps, OwnT w base p.1.atom.terms p.2.1 p.2.2
structure OwnR (w : World) (base : Nat) (r : Rule) (gh ch gb cb : Nat) : Prop where
  head : OwnT w base r.head.terms gh ch
  body : ∃ ps, ps.map (·.1) = r.body ∧ OwnL w base ps gb cb ∧ OwnTs w base ps
theorem OwnT.mono {w : World} {base base' : Nat} {ts : List Term} {g c : Nat} (h : OwnT w base ts g c) (hb : base' ≤ base) : OwnT w base' ts g c := ⟨own_base h.1 hb, h.2⟩
theorem OwnT.ext {w w' : World} {base : Nat} {ts : List Term} {g c : Nat} (h : OwnT w base ts g c) (hb : Ext w w') : OwnT w' base ts g c :=
  ⟨h.1.kept (gb_of_ext hb none) (by simp [Value.ownBlock]), h.2⟩
theorem OwnT.gb {w w' : World} {base b2 s2 n2 : Nat} {v2 : Value} {x2 : List Value} {ts : List Term} {g c : Nat} (h : OwnT w base ts g c) (h2 : w.ownsRow b2 47 s2 v2 n2 x2) (k : w.grownBy w' v2.ownBlock) : OwnT w' base ts g c :=
  ⟨h.1.kept k (own_apart h.1 h2 (by decide)), h.2⟩
theorem OwnT.set {w : World} {base : Nat} {ts : List Term} {g c : Nat} (h : OwnT w base ts g c) {a : Addr} (ha : a.block < base) (u : Value) : OwnT (w.setCell a u) base ts g c := ⟨ownsRow_setCell_below h.1 ha u, h.2⟩
/-- Before round k: of the first k literals copies lie in the row v. -/
structure OwnIn (W : World) (ls : List Lit) (k : Nat) (v : Value) (w : World) : Prop where
  old : Ext W w
  row : ∃ ps, ps.map (·.1) = ls.take k ∧ w.ownsRow W.heap.size 47 8 v k (flatL ps) ∧ OwnTs w W.heap.size ps
theorem OwnTs.ext {w w' : World} {base : Nat} {ps : List (Lit × Nat × Nat)} (h : OwnTs w base ps) (hb : Ext w w') : OwnTs w' base ps := fun p hp => (h p hp).ext hb
theorem OwnTs.gb {w w' : World} {base b2 s2 n2 : Nat} {v2 : Value} {x2 : List Value} {ps : List (Lit × Nat × Nat)} (h : OwnTs w base ps) (h2 : w.ownsRow b2 47 s2 v2 n2 x2) (k : w.grownBy w' v2.ownBlock) : OwnTs w' base ps := fun p hp => (h p hp).gb h2 k
/-- What own hands back is a rule. -/
theorem OwnR.rule {w0 w : World} {base : Nat} {r : Rule} {gh ch gb cb : Nat} {ah : Option Addr} {nh c1 : Nat} {ab : Option Addr} {nb c2 : Nat} (h : OwnR w base r gh ch gb cb) (hr : RuleV w0 r ah nh c1 ab nb c2) :
    RuleV w r (some ⟨gh, 0, none⟩) nh ch (some ⟨gb, 0, none⟩) nb cb := by
  obtain ⟨ps, hps, hL, hT⟩ := h.body
  have hlen : ps.length = nb := by rw [← hr.body.2.1, ← hps, List.length_map]
  refine ⟨hr.pred, own_terms (rest := [markT]) h.head.1 hr.terms.2.1 hr.terms.1 hr.terms.texts, ⟨hr.body.1, hr.body.2.1, fun i l hl => ⟨gb, 0, rfl, ?_⟩⟩, ⟨by have := h.head.2; rw [hr.terms.2.1] at this; omega, by intro h; cases h⟩, ⟨by have := hL.2; omega, by intro h; cases h⟩⟩
  have hi : i < ps.length := by rw [hlen, ← hr.body.2.1]; exact (List.getElem?_eq_some_iff.1 hl).1
  obtain ⟨p, hp⟩ : ∃ p, ps[i]? = some p := ⟨_, List.getElem?_eq_getElem hi⟩
  have hpl : p.1 = l := by
    have e : (ps.map (·.1))[i]? = some p.1 := by rw [List.getElem?_map, hp]; rfl
    rw [hps, hl] at e
    exact (Option.some.inj e).symm
  obtain ⟨_, _, _, a, n, cap, _, _, _, _, _, _, _, _, ht, _, hp1, hp2, hp3⟩ := hr.body.2.2 i l hl
  have C : ∀ j, j < 8 → w.cell? ⟨gb, 0 + i * 8 + j, none⟩ = (litCells p)[j]? := by
    intro j hj
    have hjl : j < (litCells p).length := by simpa [litCells] using hj
    have e := flatL_get ps i j p hp hj
    rw [List.getElem?_eq_getElem hjl] at e ⊢
    have := hL.1.cells (g := gb) rfl (i * 8 + j) _ (by rw [List.getElem?_append_left (by rw [flatL_len]; omega)]; exact e)
    rw [Addr.add_lit] at this
    rw [Nat.zero_add] at this ⊢
    exact this
  have o := hT p (List.mem_of_getElem? hp)
  obtain ⟨lp, g, c⟩ := p
  cases hpl
  refine ⟨some ⟨g, 0, none⟩, lp.atom.terms.length, c, C 0 (by omega), C 1 (by omega), C 2 (by omega), C 3 (by omega), C 4 (by omega), C 5 (by omega), C 6 (by omega), C 7 (by omega), own_terms (rest := [markT]) o.1 rfl (by rw [ht.2.1]; exact ht.1) ht.texts, ⟨by have := o.2; dsimp only at this; omega, by intro h; cases h⟩, hp1, hp2, hp3⟩
theorem set12 {w : World} {b : Nat} {u1 u2 : Value} (h1 : w.cell? ⟨b, 1, none⟩ = some u1) (h2 : w.cell? ⟨b, 2, none⟩ = some u2) (p q : Value) {W : World}
    (hW : (w.setCell ⟨b, 1, none⟩ p).setCell ⟨b, 2, none⟩ q = W) :
    W.cell? ⟨b, 1, none⟩ = some p ∧ W.cell? ⟨b, 2, none⟩ = some q ∧ (∀ i, i ≠ 1 → i ≠ 2 → W.cell? ⟨b, i, none⟩ = w.cell? ⟨b, i, none⟩) ∧ W.heap.size = w.heap.size := by
  subst hW
  have o1 : (w.setCell ⟨b, 1, none⟩ p).cell? ⟨b, 2, none⟩ = some u2 := by rw [World.cell?_setCell_other]; exact h2; simp
  refine ⟨?_, World.cell?_setCell_same _ _ _ o1, fun i i1 i2 => ?_, by simp⟩
  · rw [World.cell?_setCell_other]; exact World.cell?_setCell_same _ _ _ h1; simp
  · rw [World.cell?_setCell_other, World.cell?_setCell_other]
    · intro e; cases e; exact i1 rfl
    · intro e; cases e; exact i2 rfl
theorem c_marked (p : ByteArray) (g n cap : Nat) (w : World) (hc : n + 1 ≤ cap) (hm : cap ≤ maxLen) (hk : w.cell? ⟨g, n * 2, none⟩ = some (.int .i64 (-77))) :
    Calls Tryz.prog 25 #[.agg #[.string p, .slice (some ⟨g, 0, none⟩) n cap]] w fun e w' => e = .returned (.bool true) ∧ Ext w w' := by
  have hm' : cap ≤ 9223372036854775807 := by unfold maxLen at hm; omega
  clear hm
  have q1 : (0 : Int) ≤ (n : Int) := by omega
  have q2 : (n : Int) < (cap : Int) := by omega
  have q3 : (n : Int) + 1 ≤ (cap : Int) := by omega
  have q5 : (0 : Int) ≤ (n : Int) + 1 := by omega
  have q6 : wrap64 ((n : Int) + 1) = (n : Int) + 1 := by unfold wrap64; omega
  have q8 : (n : Int) < (n : Int) + 1 := by omega
  have hgl : g < w.heap.size := World.block_lt_of_cell? w ⟨g, _, none⟩ hk
  have hk' : ∀ o, (w.alloc o).cell? ⟨g, n * 2, none⟩ = some (.int .i64 (-77)) := fun o => keep (ext_alloc (Below.refl _ _) o) hk
  go_enter Tryz.func25, Tryz.ntmps25
  go_wp2
  go_returns
  exact ⟨rfl, ext_alloc (Below.refl _ _) _⟩
theorem OwnT.mark {w : World} {base : Nat} {ts : List Term} {g cap : Nat} (h : OwnT w base ts g cap) : ts.length + 1 ≤ cap ∧ cap ≤ maxLen ∧ w.cell? ⟨g, ts.length * 2, none⟩ = some (.int .i64 (-77)) := by
  refine ⟨h.2, ?_, ?_⟩
  · rcases h.1.2 with ⟨h1, _⟩ | ⟨g', c', cur, h1, _, _, _, hm, _⟩
    · cases h1
    · cases h1
      exact hm
  · obtain ⟨g1, _⟩ := flatT_get (ts ++ [markT]) ts.length markT (by simp)
    have := h.1.cells (g := g) rfl _ _ g1
    rw [Addr.add_lit, Nat.zero_add] at this
    exact this
theorem OwnL.mark {w : World} {base : Nat} {ps : List (Lit × Nat × Nat)} {g cap : Nat} (h : OwnL w base ps g cap) : ps.length + 1 ≤ cap ∧ cap ≤ maxLen ∧ w.cell? ⟨g, ps.length * 8, none⟩ = some (.int .i64 (-77)) := by
  refine ⟨h.2, ?_, ?_⟩
  · rcases h.1.2 with ⟨h1, _⟩ | ⟨g', c', cur, h1, _, _, _, hm, _⟩
    · cases h1
    · cases h1
      exact hm
  · have := h.1.cells (g := g) rfl (ps.length * 8) (.int .i64 (-77)) (by rw [List.getElem?_append_right (by rw [flatL_len]; omega), flatL_len]; simp [markL])
    rw [Addr.add_lit, Nat.zero_add] at this
    exact this
/-- The i-th literal of a rule of one's own. -/
theorem OwnR.lit_at {w : World} {base : Nat} {r : Rule} {gh ch gb cb : Nat} (h : OwnR w base r gh ch gb cb) {i : Nat} {l : Lit} (hi : r.body[i]? = some l) : ∃ g c, w.cell? ⟨gb, i * 8 + 1, none⟩ = some (.string l.atom.pred) ∧ w.cell? ⟨gb, i * 8 + 2, none⟩ = some (.slice (some ⟨g, 0, none⟩) l.atom.terms.length c) ∧ OwnT w base l.atom.terms g c := by
  obtain ⟨ps, hps, hL, hT⟩ := h.body
  rw [← hps, List.getElem?_map] at hi
  obtain ⟨p, hp, rfl⟩ := Option.map_eq_some_iff.1 hi
  have hil := (List.getElem?_eq_some_iff.1 hp).1
  have C : ∀ j u, (litCells p)[j]? = some u → w.cell? ⟨gb, i * 8 + j, none⟩ = some u := by
    intro j u hu
    have hj : j < 8 := (List.getElem?_eq_some_iff.1 hu).1
    have := hL.1.cells (g := gb) rfl (i * 8 + j) u (by rw [List.getElem?_append_left (by rw [flatL_len]; omega), flatL_get ps i j p hp hj]; exact hu)
    rw [Addr.add_lit, Nat.zero_add] at this
    exact this
  exact ⟨p.2.1, p.2.2, C 1 _ rfl, C 2 _ rfl, hT p (List.mem_of_getElem? hp)⟩
theorem OwnR.ext {w w' : World} {base : Nat} {r : Rule} {gh ch gb cb : Nat} (h : OwnR w base r gh ch gb cb) (e : Ext w w') : OwnR w' base r gh ch gb cb := by
  obtain ⟨ps, h1, h2, h3⟩ := h.body
  exact ⟨h.head.ext e, ps, h1, ⟨h2.1.kept (gb_of_ext e none) (by simp [Value.ownBlock]), h2.2⟩, h3.ext e⟩
end Go.Proofs.YtlalgaioiapjmaaGreatDoor.K
namespace Go.Proofs.YtlalgaioiapjmaaGreatDoor
open Go.ChangeShapes Go.WideShapes Go.ChangeAt Go.RowKit
open K (Rule Term Atom TermsAt LitsAt RuleV OwnR OwnT OwnL OwnTs OwnIn flatL litCells markL)
/-- A rule, and where its lists lie. -/
abbrev RuleP := Rule × Nat × Nat × Nat × Nat
def valsR (q : RuleP) : List Value := [.string q.1.head.pred, .slice (some ⟨q.2.1, 0, none⟩) q.1.head.terms.length q.2.2.1, .slice (some ⟨q.2.2.2.1, 0, none⟩) q.1.body.length q.2.2.2.2]
def flatR (qs : List RuleP) : List Value := qs.flatMap valsR
def markR : List Value := [.string ⟨#[60, 109, 97, 114, 107, 62]⟩, .slice none 0 0, .slice none 0 0]
theorem flatR_len (qs : List RuleP) : (flatR qs).length = qs.length * 3 := by
  induction qs with
  | nil => rfl
  | cons q qs ih => simp only [flatR, valsR, List.flatMap_cons, List.length_append, List.length_cons, List.length_nil] at ih ⊢; omega
theorem flatR_snoc (qs : List RuleP) (q : RuleP) : flatR (qs ++ [q]) = flatR qs ++ valsR q := by simp [flatR]
theorem flatR_get : ∀ (qs : List RuleP) (i j : Nat) (q : RuleP), qs[i]? = some q → j < 3 → (flatR qs)[i * 3 + j]? = (valsR q)[j]?
  | [], i, j, q, h, _ => by simp at h
  | a :: qs, 0, j, q, h, hj => by
    simp at h
    subst h
    show (valsR a ++ flatR qs)[0 * 3 + j]? = _
    rw [Nat.zero_mul, Nat.zero_add, List.getElem?_append_left (by simpa [valsR] using hj)]
  | a :: qs, i + 1, j, q, h, hj => by
    show (valsR a ++ flatR qs)[(i + 1) * 3 + j]? = _
    rw [show (i + 1) * 3 + j = (i * 3 + j) + 3 by omega, List.getElem?_append_right (by simp [valsR]), show (i * 3 + j) + 3 - (valsR a).length = i * 3 + j by simp [valsR]]
    exact flatR_get qs i j q (by simpa using h) hj
def OwnQ (w : World) (base : Nat) (q : RuleP) : Prop := OwnR w base q.1 q.2.1 q.2.2.1 q.2.2.2.1 q.2.2.2.2
/-- Rules of one's own are left alone where a row of another type grows. -/
theorem OwnQ.gb {w w' : World} {base b2 s2 n2 : Nat} {v2 : Value} {x2 : List Value} {q : RuleP} (h : OwnQ w base q) (h2 : w.ownsRow b2 50 s2 v2 n2 x2) (k : w.grownBy w' v2.ownBlock) : OwnQ w' base q := by
  obtain ⟨ps, h3, h4, h5⟩ := h.body
  have T : ∀ {ts g c}, OwnT w base ts g c → OwnT w' base ts g c := fun h => ⟨h.1.kept k (own_apart h.1 h2 (by decide)), h.2⟩
  exact ⟨T h.head, ps, h3, ⟨h4.1.kept k (own_apart h4.1 h2 (by decide)), h4.2⟩, fun p hp => T (h5 p hp)⟩
theorem OwnQ.ext {w w' : World} {base : Nat} {q : RuleP} (h : OwnQ w base q) (e : Ext w w') : OwnQ w' base q := OwnR.ext h e
theorem OwnQ.mono {w : World} {base base' : Nat} {q : RuleP} (h : OwnQ w base q) (hb : base' ≤ base) : OwnQ w base' q := by
  obtain ⟨ps, h3, h4, h5⟩ := h.body
  exact ⟨h.head.mono hb, ps, h3, ⟨own_base h4.1 hb, h4.2⟩, fun p hp => (h5 p hp).mono hb⟩
theorem info_rule : (Tryz.prog.info? 50).map (fun i => (i.zero, i.size, i.bytes)) = some (some (.agg #[.string ⟨#[]⟩, .slice none 0 0, .slice none 0 0]), 3, 64) := by kernel_rfl
theorem wpList_push_rule {ops : Array Oper} {rest : List Oper} {o : Oper} {a : Act} {Q : Exit → Act → World → Prop} (W0 : World) (vs : List Value) (base : Nat) (fa : Option Addr) (n fc : Nat) (l : List Value) (hown : W0.ownsRow base 50 3 (.slice fa n fc) n l) (hn : n ≤ 2199023255488) (hbase : base ≤ W0.heap.size) (hl : vs.length = 3) (h1 : ∀ u ∈ vs, u.oneCell' = true) (hgd : o.guard = none) (so xo : Operand)
    (ho : o.op = .call { callee := .builtin .append, args := #[so, xo], argTypes := #[22, 22] }) (hs : a.eval so = .slice fa n fc) (hx : a.eval xo = .slice (some ⟨W0.heap.size, 0, none⟩) 1 1)
    (h : ∀ g cap w', w'.ownsRow base 50 3 (.slice (some ⟨g, 0, none⟩) (n + 1) cap) (n + 1) (l ++ vs) → (W0.alloc (.cells vs.toArray 50)).grownBy w' (Value.slice fa n fc).ownBlock → ((Value.slice fa n fc).ownBlock = some g ∨ W0.heap.size < g) → n + 1 ≤ cap → wpList Tryz.prog ops Q rest (a.put o.dst (.slice (some ⟨g, 0, none⟩) (n + 1) cap)) w') :
    wpList Tryz.prog ops Q (o :: rest) a (W0.alloc (.cells vs.toArray 50)) := by
  obtain ⟨n0, hn0, nz0, nz1, nz2⟩ := info_parts info_rule
  exact wpList_append_one _ hgd so xo 22 ho base 50 n0 (.agg #[.string ⟨#[]⟩, .slice none 0 0, .slice none 0 0]) 3 64 Tryz.underlying22 hn0 nz0 nz1 nz2 rfl (by decide) _ n _ l hs (hown.alloc _) ⟨W0.heap.size, 0, none⟩ 1 vs hx hl (fun j x hj => by
    have hB := Blk.new W0 vs 50
    rw [Addr.add_lit, Nat.zero_add]
    exact hB.cell hj) h1 (by unfold maxLen; omega) (by omega) (by simp; omega) fun g cap w1 hown1 hgrow hat _ => h g cap w1 hown1 hgrow (hat.imp id fun e => by rw [e]; simp) (by
      obtain ⟨_, _, e, hle⟩ := own_form hown1
      cases e
      exact hle)
theorem res_prog {fn : Func} {t : Tmp} {tmps : Array Value} {w : World} {b : Nat} {x : Value} (hf : fn.results = #[.cell t 24]) (ht : tmps.getD t undef = .pointer (some ⟨b, 0, none⟩)) (h : Blk w b 24 [x]) : (results fn tmps).run Tryz.prog w = .ok (.agg #[x]) w := by
  have h0 := h.cell (i := 0) rfl
  have ht' : tmps[t]?.getD undef = .pointer (some ⟨b, 0, none⟩) := by rw [← ht]; simp
  simp only [results, hf]
  go_simp
/-- A program of one's own. -/
structure OwnPr (w : World) (base : Nat) (rs : List Rule) (g c : Nat) : Prop where
  ex : ∃ qs : List RuleP, qs.map (·.1) = rs ∧ w.ownsRow base 50 3 (.slice (some ⟨g, 0, none⟩) (rs.length + 1) c) (rs.length + 1) (flatR qs ++ markR) ∧ ∀ q ∈ qs, OwnQ w base q
  cap : rs.length + 1 ≤ c
theorem OwnPr.ext {w w' : World} {base : Nat} {rs : List Rule} {g c : Nat} (h : OwnPr w base rs g c) (e : Ext w w') : OwnPr w' base rs g c := by
  obtain ⟨qs, h1, h2, h3⟩ := h.ex
  exact ⟨⟨qs, h1, up_ext h2 e, fun q hq => (h3 q hq).ext e⟩, h.cap⟩
/-- What Normal's walk knows of a rule in memory (sizes alone): kept for what is one's own. -/
theorem OwnPr.rules {w0 w : World} {base : Nat} {rs : List Rule} {g c : Nat} {a : Option Addr} {n : Nat} (h : OwnPr w base rs g c) (h0 : RulesAt w0 a n rs) : RulesAt w (some ⟨g, 0, none⟩) n rs := by
  obtain ⟨qs, h1, h2, h3⟩ := h.ex
  refine ⟨h0.1, h0.2.1, fun i r hr => ⟨g, 0, rfl, ?_⟩⟩
  have hr2 := hr
  rw [← h1, List.getElem?_map] at hr2
  obtain ⟨q, hq, rfl⟩ := Option.map_eq_some_iff.1 hr2
  have hil := (List.getElem?_eq_some_iff.1 hq).1
  have C : ∀ j u, (valsR q)[j]? = some u → w.cell? ⟨g, 0 + i * 3 + j, none⟩ = some u := fun j u hu => by
    have hj : j < 3 := (List.getElem?_eq_some_iff.1 hu).1
    have := h2.cells (g := g) rfl (i * 3 + j) u (by rw [List.getElem?_append_left (by rw [flatR_len]; omega), flatR_get qs i j q hq hj]; exact hu)
    rw [Addr.add_lit, Nat.zero_add] at this
    rw [Nat.zero_add]
    exact this
  obtain ⟨_, _, _, ah, nh, ch, ab, nb, cb, _, _, _, hv⟩ := h0.2.2 i _ hr
  obtain rfl : q.1.head.terms.length = nh := hv.terms.2.1
  obtain rfl : q.1.body.length = nb := hv.body.2.1
  exact ⟨_, _, _, _, _, _, C 0 _ rfl, C 1 _ rfl, C 2 _ rfl, OwnR.rule (h3 q (List.mem_of_getElem? hq)) hv⟩
set_option maxRecDepth 100000 in
set_option maxHeartbeats 4000000 in
theorem c_copied (rs : List Rule) (a : Option Addr) (n c : Nat) (w : World) (h : RulesAt w a n rs) (hn : n ≤ 2199023255488) :
    Calls Tryz.prog 5 #[.agg #[.slice a n c]] w fun e w' => ∃ g c', e = .returned (.agg #[.slice (some ⟨g, 0, none⟩) n c']) ∧ OwnPr w' w.heap.size rs g c' ∧ Ext w w' := by
  obtain ⟨i0, hi, hz0, hz1, hz2⟩ := info_parts K.info_lit
  have H := Lib.hid h
  have HL := Lib.hid h.2.1
  have HNN := Lib.hid hn
  clear h
  go_enter Tryz.func5, Tryz.ntmps5
  go_upto_region 1 with (fail)
  refine wp_gen (fun W hW => ?_)
  have E0 : Ext w W := by rw [hW]; exact ext_alloc (ext_alloc (Below.refl _ _) _) _
  have p0 : W.cell? ⟨w.heap.size, 0, none⟩ = some (.slice a n c) := by rw [hW]; go_simp
  have BR : Blk W (w.heap.size + 1) 24 [.slice none 0 0] := by
    rw [hW]
    have := Blk.new (w.alloc (.cells #[.slice a n c] 24)) [.slice none 0 0] 24
    rw [World.size_alloc] at this
    exact this
  obtain ⟨pb, hpb⟩ : ∃ pb, w.heap.size = pb := ⟨_, rfl⟩
  rw [hpb] at p0 BR ⊢
  have HPB := Lib.hid hpb
  have HBR := Lib.hid BR
  have HE0 := Lib.hid E0
  clear hW E0 BR hpb
  go_wp2
  go_loopw [3, 4] (fun v iv wr => ∃ i : Nat, i ≤ n ∧ iv = .int .i64 (i : Int) ∧ ∃ qs : List RuleP, qs.map (·.1) = rs.take i ∧ wr.ownsRow W.heap.size 50 3 v i (flatR qs) ∧ (∀ q ∈ qs, OwnQ wr W.heap.size q) ∧ Ext W wr) (fun _ iv _ => n - (intOf iv).toNat)
  case atStart => exact ⟨0, Nat.zero_le _, rfl, [], rfl, World.ownsRow_nil _ _ _ _, by simp, Below.refl _ _⟩
  case round =>
    obtain ⟨i, hi2, rfl, qs, hqs, row, hq, hE⟩ := hrel
    have p1 := keep hE p0
    obtain ⟨va, vc, rfl, _⟩ := own_form row
    have ROW := Lib.hid row
    have HQ := Lib.hid hq
    have HQS := Lib.hid hqs
    have HE := Lib.hid hE
    have EWR : Hid (Ext w wr) := ext_trans HE0.out hE
    have hsW := hE.size
    clear hqs hq
    by_cases hlt : ¬ i < n
    · have hki : ¬ (i : Int) < (n : Int) := by omega
      obtain rfl : i = n := by omega
      have hsz := HE.out.size
      have hn1 : i ≤ 2199023255488 := HNN.out
      clear row
      go_wp2_with (at_builtin; go_loud (refine wpList_push_rule wr markR W.heap.size va i vc (flatR qs) ROW.out hn1 hsz (by decide) (by intro u hu; simp [markR] at hu; rcases hu with rfl | rfl | rfl <;> rfl) rfl _ _ rfl rfl rfl ?_); intro g6 c6 w6 r1 r2 r3 r4; have B6 : Blk w6 (pb + 1) 24 [.slice none 0 0] := (HBR.out.ext (ext_alloc HE.out _)).grown r2 (fun e => by have := (ROW.out.lt _ e).1; have := HBR.out.lt; omega); have z0 := B6.cell (i := 0) rfl; have zf := B6.free; have p6 : w6.cell? ⟨pb, 0, none⟩ = some (.slice a i c) := r2.cell (keep (ext_alloc (Below.refl _ _) _) p1) (fun e => by have := (ROW.out.lt pb e.symm).1; have := HBR.out.lt; omega); have hic : (i : Int) ≤ (c6 : Int) := by omega)
      refine bodyPost_ret (res_prog rfl rfl (B6.set 0 (.slice (some ⟨g6, 0, none⟩) i c6))) rfl ?_
      have hpb := HPB.out
      have hpl : rs.length = i := HL.out
      have b9 : ButS (fun x => x = pb + 1) w6 (w6.setCell ⟨pb + 1, 0, none⟩ (.slice (some ⟨g6, 0, none⟩) i c6)) := (ButS.refl (fun x => x = pb + 1) w6).set (.inl rfl) _ _
      have e6 : Ext W w6 := ext_ownB (ext_alloc HE.out _) r2 (fun g e => (ROW.out.lt g e).1)
      have hrl := HBR.out.lt
      have eF : Ext w (w6.setCell ⟨pb + 1, 0, none⟩ (.slice (some ⟨g6, 0, none⟩) i c6)) := ext_of_but (ext_trans HE0.out e6) b9 (fun x hx e => by omega)
      have row9 := b9.own r1 (fun x hx e => by have := (r1.lt x hx).1; omega)
      have hw0 : w.heap.size ≤ W.heap.size := HE0.out.size
      refine ⟨g6, c6, rfl, ⟨⟨qs, ?_, ?_, fun q hq => ?_⟩, by omega⟩, eF⟩
      · rw [HQS.out, List.take_of_length_le (by omega)]
      · rw [hpl]
        exact own_base row9 hw0
      · have q6 := ((HQ.out q hq).ext (ext_alloc (Below.refl _ _) _)).gb (ROW.out.alloc _) r2
        refine OwnQ.mono (base := W.heap.size) ?_ hw0
        obtain ⟨ps, h3, h4, h5⟩ := q6.body
        have T : ∀ {ts g c}, OwnT w6 W.heap.size ts g c → OwnT (w6.setCell ⟨pb + 1, 0, none⟩ (.slice (some ⟨g6, 0, none⟩) i c6)) W.heap.size ts g c := fun h => ⟨b9.own h.1 (fun x hx e => by have := (h.1.lt x hx).1; omega), h.2⟩
        exact ⟨T q6.head, ps, h3, ⟨b9.own h4.1 (fun x hx e => by have := (h4.1.lt x hx).1; omega), h4.2⟩, fun p hp => T (h5 p hp)⟩
    · have hlt : i < n := by omega
      have hki : (i : Int) < (n : Int) := by omega
      obtain ⟨r, b, off, hrk, rfl, ah, nh, ch, ab, nb, cb, y0, y1, y2, hrv⟩ := (H.out.keep EWR.out).2.at hlt
      have HRK := Lib.hid hrk
      have HR := Lib.hid hrv
      have HLT := Lib.hid hlt
      have HN := Lib.hid hrv.body.1
      have HBL := Lib.hid hrv.body.2.1
      obtain rfl : r.head.terms.length = nh := hrv.terms.2.1
      obtain ⟨WO, rfl⟩ : ∃ WO, WO = wr := ⟨_, rfl⟩
      clear hrk hrv row hE
      go_upto_region 6 with (fail)
      refine wp_gen (fun W1 hW => ?_)
      have E1 : Ext WO W1 := by rw [hW]; exact ext_alloc (Below.refl _ _) _
      have B1 : Blk W1 WO.heap.size 50 [.string r.head.pred, .slice ah r.head.terms.length ch, .slice ab nb cb] := by
        rw [hW]
        exact Blk.new WO [.string r.head.pred, .slice ah r.head.terms.length ch, .slice ab nb cb] 50
      have hs1 : W1.heap.size = WO.heap.size + 1 := by rw [hW]; simp
      obtain ⟨rb, hrb⟩ : ∃ rb, WO.heap.size = rb := ⟨_, rfl⟩
      rw [hrb] at B1 hs1 ⊢
      have x0 := B1.cell (i := 0) rfl
      have x1 := B1.cell (i := 1) rfl
      have x2 := B1.cell (i := 2) rfl
      have CA := Lib.hid (K.c_ownAtom r.head ah _ ch W1 (HR.out.terms.keep E1) HR.out.hcap)
      have HB1 := Lib.hid B1
      have HE1 := Lib.hid E1
      have HRB := Lib.hid hrb
      clear hW B1 E1 y0 y1 y2 hrb
      go_upto_region 7 with (go_at_call 13; (with_reducible refine CA.out.mono ?_); rintro e w1 ⟨gh, ch', rfl, hown1, hb1⟩; have B2 := HB1.out.ext hb1; have a0 := B2.cell (i := 0) rfl; have a1 := B2.cell (i := 1) rfl; have a2 := B2.cell (i := 2) rfl; have af := B2.free; have HB2 := Lib.hid B2; have HO1 := Lib.hid hown1; have HX1 := Lib.hid hb1; clear B2 hown1 hb1)
      refine wp_gen (fun W2 hW2 => ?_)
      have B3 : Blk W2 rb 50 [.string r.head.pred, .slice (some ⟨gh, 0, none⟩) r.head.terms.length ch', .slice ab nb cb] := by
        rw [hW2]
        exact (HB2.out.set 0 (.string r.head.pred)).set 1 (.slice (some ⟨gh, 0, none⟩) r.head.terms.length ch')
      have hown2 : OwnT W2 W1.heap.size r.head.terms gh ch' := by
        rw [hW2]
        exact (HO1.out.set (a := ⟨rb, 0, none⟩) (by show rb < _; omega) _).set (a := ⟨rb, 1, none⟩) (by show rb < _; omega) _
      have hwr0 := HRB.out
      have E2 : Ext WO W2 := by
        rw [hW2]
        exact ext_set (ext_set (ext_trans HE1.out HX1.out) (by show WO.heap.size ≤ rb; omega) _) (by show WO.heap.size ≤ rb; omega) _
      have c2 := B3.cell (i := 2) rfl
      have E02 : Hid (Ext WO W2) := E2
      have HB3 := Lib.hid B3
      have HO2 := Lib.hid hown2
      have HS2 : Hid (W1.heap.size ≤ W2.heap.size) := by show _ ≤ _; rw [hW2]; simpa using HX1.out.size
      have HS1 := Lib.hid hs1
      clear hW2 B3 hown2 E2 a0 a1 a2 af x0 x1 x2 CA HB2 HO1 HX1 hwr0 hs1
      go_upto_block 2 with (fail)
      go_cut [6] (fun v wc => Ext W2 wc ∧ ∃ ps, ps.map (·.1) = r.body ∧ wc.ownsRow W2.heap.size 47 8 v nb (flatL ps) ∧ OwnTs wc W2.heap.size ps)
      case first =>
        go_wp2
        go_loopw [6, 7] (fun v i wj => ∃ k, k ≤ nb ∧ i = .int .i64 (k : Int) ∧ OwnIn W2 r.body k v wj) (fun _ i _ => nb - (intOf i).toNat)
        case atStart => exact ⟨0, by omega, rfl, ⟨Below.refl _ _, [], rfl, World.ownsRow_nil _ _ _ _, fun _ h => by cases h⟩⟩
        case round =>
          obtain ⟨k, hk, rfl, hs⟩ := hrel
          have y2b := keep hs.old c2
          have HS := Lib.hid hs
          clear hs
          by_cases hjl : k < nb
          · skip
            obtain ⟨l, bt, off, hx, rfl, a, n, cap, h0, h1, h2, h3, h4, h5, h6, h7, ht, hcap, hp, hl, hr⟩ := (HR.out.body).2.at hjl
            obtain rfl : n = l.atom.terms.length := ht.2.1.symm
            have HX := Lib.hid hx
            have HC := Lib.hid hcap
            have hwr := ext_trans E02.out HS.out.old
            have g0 := keep hwr h0
            have g1 := keep hwr h1
            have g2 := keep hwr h2
            have g3 := keep hwr h3
            have g4 := keep hwr h4
            have g5 := keep hwr h5
            have g6 := keep hwr h6
            have g7 := keep hwr h7
            have HT := Lib.hid ht
            clear hx h0 h1 h2 h3 h4 h5 h6 h7 ht hcap
            go_upto_region 12 with (fail)
            refine wp_gen (fun Wi hWi => ?_)
            have hin : Ext wr Wi := by rw [hWi]; exact ext_alloc (Below.refl _ _) _
            have e0 : Wi.cell? ⟨wr.heap.size, 0, none⟩ = some (.int .i64 l.kind) := by rw [hWi]; go_simp
            have e1 : Wi.cell? ⟨wr.heap.size, 1, none⟩ = some (.string l.atom.pred) := by rw [hWi]; go_simp
            have e2 : Wi.cell? ⟨wr.heap.size, 2, none⟩ = some (.slice a l.atom.terms.length cap) := by rw [hWi]; go_simp
            have e3 : Wi.cell? ⟨wr.heap.size, 3, none⟩ = some (.int .i64 l.op) := by rw [hWi]; go_simp
            have e4 : Wi.cell? ⟨wr.heap.size, 4, none⟩ = some (.int .i64 l.left.kind) := by rw [hWi]; go_simp
            have e5 : Wi.cell? ⟨wr.heap.size, 5, none⟩ = some (.string l.left.text) := by rw [hWi]; go_simp
            have e6 : Wi.cell? ⟨wr.heap.size, 6, none⟩ = some (.int .i64 l.right.kind) := by rw [hWi]; go_simp
            have e7 : Wi.cell? ⟨wr.heap.size, 7, none⟩ = some (.string l.right.text) := by rw [hWi]; go_simp
            have v1 : Wi.frozen? ⟨wr.heap.size, 1, none⟩ = false := by rw [hWi]; go_simp
            have v2 : Wi.frozen? ⟨wr.heap.size, 2, none⟩ = false := by rw [hWi]; go_simp
            have hsi : wr.heap.size < Wi.heap.size := World.block_lt_of_cell? _ _ e0
            clear hWi g0 g1 g2 g3 g4 g5 g6 g7
            go_upto_region 13 with (go_at_call 13; (with_reducible refine (K.c_ownAtom l.atom _ _ _ _ (HT.out.keep (ext_trans hwr hin)) HC.out).mono ?_); rintro e w3 ⟨gx, cx, rfl, hown3, hb3⟩; have m1 := keep hb3 e1; have m2 := keep hb3 e2; have v1 := (hb3.frozen (p := ⟨wr.heap.size, 1, none⟩) hsi).trans v1; have v2 := (hb3.frozen (p := ⟨wr.heap.size, 2, none⟩) hsi).trans v2)
            refine wp_gen (fun W3 hW3 => ?_)
            obtain ⟨d1, d2, dz, sz⟩ := K.set12 m1 m2 _ _ hW3.symm
            have hw3 : Ext wr W3 := by rw [hW3]; exact ext_set (ext_set (ext_trans hin hb3) (Nat.le_refl _) _) (Nat.le_refl _) _
            have hown4 : OwnT W3 Wi.heap.size l.atom.terms gx cx := by rw [hW3]; exact (hown3.set (a := ⟨wr.heap.size, 1, none⟩) hsi _).set (a := ⟨wr.heap.size, 2, none⟩) hsi _
            have d0 := (dz 0 (by decide) (by decide)).trans (keep hb3 e0)
            have d3 := (dz 3 (by decide) (by decide)).trans (keep hb3 e3)
            have d4 := (dz 4 (by decide) (by decide)).trans (keep hb3 e4)
            have d5 := (dz 5 (by decide) (by decide)).trans (keep hb3 e5)
            have d6 := (dz 6 (by decide) (by decide)).trans (keep hb3 e6)
            have d7 := (dz 7 (by decide) (by decide)).trans (keep hb3 e7)
            clear hW3 dz sz hown3 e0 e3 e4 e5 e6 e7
            obtain ⟨hold, ps, hps, hrow, hts⟩ := HS.out
            have hrow3 := hrow.kept (gb_of_ext hw3 none) (by cases u6.ownBlock <;> simp)
            have hts3 := hts.ext hw3
            have hk1 : k + 1 ≤ maxLen := by have := HN.out; unfold maxLen; omega
            have hk2 : (k + 1) * 104 ≤ 140737488355328 := by have := HN.out; omega
            have K1 := Lib.hid hk1
            have K2 := Lib.hid hk2
            clear hk1 hk2
            have hnn := HN.out
            have hsz3 : W2.heap.size ≤ W3.heap.size := (ext_trans hold hw3).size
            go_wp2_with (at_builtin; go_loud (refine wpList_append_any rfl _ _ 48 rfl W2.heap.size 47 i0 (.agg #[.int .i64 0, .string ⟨#[]⟩, .slice none 0 0, .int .i64 0, .int .i64 0, .string ⟨#[]⟩, .int .i64 0, .string ⟨#[]⟩]) 8 104 Tryz.underlying48 hi hz0 hz1 hz2 rfl (by decide) _ _ _ rfl (hrow3.alloc _) (some ⟨W3.heap.size, 0, none⟩) 1 1 (litCells (l, gx, cx)) rfl (by intro h; cases h) rfl (K.cells8_at _ _ _ _ _ _ _ _ _ rfl) (by intro u hu; simp [litCells] at hu; rcases hu with rfl | rfl | rfl | rfl | rfl | rfl | rfl | rfl <;> rfl) K1.out K2.out (size_alloc_le hsz3) ?_); intro v4 w4 own4 g4)
            go_roundw
            case rel =>
              refine ⟨k + 1, by omega, by go_num, ext_ownB (ext_alloc (ext_trans hold hw3) _) g4 (fun g e => (hrow3.lt g e).1), ps ++ [(l, gx, cx)], ?_, ?_, ?_⟩
              · rw [take_at HX.out, List.map_append, hps]; rfl
              · rw [K.flatL_snoc]; exact own4
              · intro p hp
                rcases List.mem_append.1 hp with hp | hp
                · exact ((hts3 p hp).ext (ext_alloc (Below.refl _ _) _)).gb (hrow3.alloc _) g4
                · cases List.mem_singleton.1 hp
                  exact ((hown4.mono (Nat.le_trans hold.size hin.size)).ext (ext_alloc (Below.refl _ _) _)).gb (hrow3.alloc _) g4
            case measure => simp [intOf]; omega
          · have FN : Hid (Ext W2 wr ∧ ∃ ps, ps.map (·.1) = r.body ∧ wr.ownsRow W2.heap.size 47 8 u6 nb (flatL ps) ∧ OwnTs wr W2.heap.size ps) := by
              obtain ⟨hold, ps, hps, hrow, hts⟩ := HS.out
              obtain rfl : k = nb := by omega
              refine ⟨hold, ps, ?_, hrow, hts⟩
              rw [hps, List.take_of_length_le (by have := HBL.out; omega)]
            go_wp2
            go_meet
            exact FN.out
      obtain ⟨hold, ps, hps, hrow, hts⟩ := hcut
      have hk1 : nb + 1 ≤ maxLen := by have := HN.out; unfold maxLen; omega
      have hk2 : (nb + 1) * 104 ≤ 140737488355328 := by have := HN.out; omega
      have hlp : ps.length = nb := by rw [← HBL.out, ← hps, List.length_map]
      have K1 := Lib.hid hk1
      have K2 := Lib.hid hk2
      have HROW := Lib.hid hrow
      have HTS := Lib.hid hts
      have HPS := Lib.hid hps
      have HOLD := Lib.hid hold
      have HLP := Lib.hid hlp
      have HSZ := Lib.hid hold.size
      have hbnd := HN.out
      have c2c := keep hold c2
      clear hk1 hk2 hrow hts hps hold hlp p1
      obtain ⟨WC, rfl⟩ : ∃ WC, WC = wc := ⟨_, rfl⟩
      go_upto_region 15 with (at_builtin; go_loud (refine wpList_append_any rfl _ _ 48 rfl W2.heap.size 47 i0 (.agg #[.int .i64 0, .string ⟨#[]⟩, .slice none 0 0, .int .i64 0, .int .i64 0, .string ⟨#[]⟩, .int .i64 0, .string ⟨#[]⟩]) 8 104 Tryz.underlying48 hi hz0 hz1 hz2 rfl (by decide) _ _ _ rfl (HROW.out.alloc _) (some ⟨WC.heap.size, 0, none⟩) 1 1 markL rfl (by intro h; cases h) rfl (K.cells8_at _ _ _ _ _ _ _ _ _ rfl) (by intro u hu; simp [markL] at hu; rcases hu with rfl | rfl | rfl | rfl | rfl | rfl | rfl | rfl <;> rfl) K1.out K2.out (size_alloc_le HSZ.out) ?_); intro v5 w5 own5 g5; obtain ⟨gb, c5, rfl, hc5⟩ := own_formS own5 (Nat.succ_pos _); have e25 : Ext W2 w5 := ext_ownB (ext_alloc HOLD.out _) g5 (fun g e => (HROW.out.lt g e).1); have B5 := HB3.out.ext e25; have d2 := B5.cell (i := 2) rfl; have hts5 : OwnTs w5 W2.heap.size ps := fun p hp => ((HTS.out p hp).ext (ext_alloc (Below.refl _ _) _)).gb (HROW.out.alloc _) g5; have O5 := Lib.hid own5; have HT5 := Lib.hid hts5; have HB5 := Lib.hid B5; have HE25 := Lib.hid e25; have d0 := B5.cell (i := 0) rfl; have d1 := B5.cell (i := 1) rfl; have df := B5.free; clear own5 hts5 B5 e25 g5)
      have hcbi : (nb : Int) ≤ (c5 : Int) := by omega
      go_upto_region 16 with (fail)
      refine wp_gen (fun W6 hW6 => ?_)
      have B6 : Blk W6 rb 50 [.string r.head.pred, .slice (some ⟨gh, 0, none⟩) r.head.terms.length ch', .slice (some ⟨gb, 0, none⟩) nb c5] := by
        rw [hW6]
        exact HB5.out.set 2 (.slice (some ⟨gb, 0, none⟩) nb c5)
      have hwo := HRB.out
      have e6 : Ext WO W6 := by
        rw [hW6]
        exact ext_set (ext_trans E02.out HE25.out) (by show WO.heap.size ≤ rb; omega) _
      have hrb1 : rb < W1.heap.size := by have := HS1.out; omega
      have hrb2 : rb < W2.heap.size := by have := HS2.out; omega
      have NEWQ : Hid (OwnQ W6 W.heap.size (r, gh, ch', gb, c5)) := by
        have hww : W.heap.size ≤ WO.heap.size := hsW
        have h2 := HS2.out
        refine OwnQ.mono (base := W1.heap.size) ?_ (by omega)
        rw [hW6]
        refine ⟨(HO2.out.ext HE25.out).set (a := ⟨rb, 2, none⟩) hrb1 _, ps, HPS.out, ⟨?_, by show ps.length + 1 ≤ c5; rw [HLP.out]; exact hc5⟩, fun p hp => ((HT5.out p hp).set (a := ⟨rb, 2, none⟩) hrb2 _).mono h2⟩
        show World.ownsRow _ _ _ _ (.slice (some ⟨gb, 0, none⟩) (ps.length + 1) c5) (ps.length + 1) _
        rw [HLP.out]
        exact own_base (ownsRow_setCell_below O5.out (a := ⟨rb, 2, none⟩) hrb2 _) h2
      have x0 := B6.cell (i := 0) rfl
      have x1 := B6.cell (i := 1) rfl
      have x2 := B6.cell (i := 2) rfl
      have ROW6 := Lib.hid (up_ext ROW.out e6)
      have HQ6 : Hid (∀ q ∈ qs, OwnQ W6 W.heap.size q) := fun q hq => (HQ.out q hq).ext e6
      have hn1 : i ≤ 2199023255488 := by have := HNN.out; omega
      have hsz6 : W.heap.size ≤ W6.heap.size := Nat.le_trans hsW e6.size
      have HE6 := Lib.hid (ext_trans HE.out e6)
      obtain rfl : r.body.length = nb := HBL.out
      clear hW6 B6 e6 O5 HT5 HB5 HE25 HROW HTS HPS HOLD HLP HSZ c2 c2c d0 d1 d2 df hrb1 hrb2 hwo hcbi
      go_wp2_with (at_builtin; go_loud (refine wpList_push_rule W6 (valsR (r, gh, ch', gb, c5)) W.heap.size va i vc (flatR qs) ROW6.out hn1 hsz6 rfl (by intro u hu; simp [valsR] at hu; rcases hu with rfl | rfl | rfl <;> rfl) rfl _ _ rfl rfl rfl ?_); intro g6 c6 w6 r1 r2 r3 r4; have E7 : Hid (Ext W w6) := ext_ownB (ext_alloc HE6.out _) r2 (fun g e => (ROW6.out.lt g e).1); have R1 := Lib.hid r1; have Q7 : Hid (∀ q ∈ qs ++ [(r, gh, ch', gb, c5)], OwnQ w6 W.heap.size q) := (fun q hq => by rcases List.mem_append.1 hq with h | h; exact ((HQ6.out q h).ext (ext_alloc (Below.refl _ _) _)).gb (ROW6.out.alloc _) r2; rw [List.mem_singleton.1 h]; exact (NEWQ.out.ext (ext_alloc (Below.refl _ _) _)).gb (ROW6.out.alloc _) r2); clear r1 r2 r3 r4)
      go_roundw
      case rel => exact ⟨i + 1, HLT.out, by go_num, qs ++ [(r, gh, ch', gb, c5)], by rw [List.map_append, HQS.out, take_at HRK.out]; rfl, by rw [flatR_snoc]; exact R1.out, Q7.out, E7.out⟩
      case measure => have := HLT.out; simp [intOf]; omega
end Go.Proofs.YtlalgaioiapjmaaGreatDoor
