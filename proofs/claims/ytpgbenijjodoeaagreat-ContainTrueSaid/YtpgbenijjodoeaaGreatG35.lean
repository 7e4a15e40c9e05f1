/- The walk of the matcher's all: the search laid in memory, and run. -/
import Derived.Test.YtpgbenijjodoeaaGreatG29
import Derived.Test.YtpgbenijjodoeaaGreatG34
namespace Go.Proofs.YtpgbenijjodoeaaGreat
open Go.ChangeShapes Go.WideShapes Go.ChangeAt Go.RowKit Go.Shelf
/-- The matcher at block pm: it stands whatever becomes of the blocks T0. -/
structure MatV (w : World) (T0 : Nat → Prop) (pm n : Nat) (ts : List JT) (pts : List Nat) (p : Nat → List ByteArray → Bool) : Prop where
  jok : ∀ t ∈ ts, t.Ok n
  big : ∀ t ∈ ts, t.vars.length ≤ 64 ∧ t.rows.length ≤ 1000000
  all : ∀ v, v < n → ∃ t ∈ ts, v ∈ t.vars
  nn : n ≤ 1000000 ∧ ts.length ≤ 1000000
  lens : pts.length = ts.length
  names : ∃ an cn, ∀ W, ButS T0 w W → W.cell? ⟨pm, 0, none⟩ = some (.slice an n cn)
  tries : ∃ aT ct, ∀ W, ButS T0 w W → W.cell? ⟨pm, 1, none⟩ = some (.slice aT ts.length ct) ∧ (∀ (i pt : Nat), pts[i]? = some pt → ∃ b o, aT = some ⟨b, o, none⟩ ∧ W.cell? ⟨b, o + i, none⟩ = some (.pointer (some ⟨pt, 0, none⟩))) ∧ ∀ (i : Nat) (t : JT) (pt : Nat), ts[i]? = some t → pts[i]? = some pt → TrieV W pt t.vars.length t.rows
  at_ : ∃ (ga ca : Nat) (f g : Nat → Nat), ∀ W, ButS T0 w W → W.cell? ⟨pm, 2, none⟩ = some (.slice (some ⟨ga, 0, none⟩) n ca) ∧ ∀ v, v < n → W.cell? ⟨ga, v, none⟩ = some (.slice (some ⟨f v, 0, none⟩) (atv ts v).length (g v)) ∧ ∀ (j c : Nat), (atv ts v)[j]? = some c → W.cell? ⟨f v, j, none⟩ = some (.int .i64 (c : Nat))
  tests : ∃ (gt_ ct : Nat), ∀ W, ButS T0 w W → W.cell? ⟨pm, 3, none⟩ = some (.slice (some ⟨gt_, 0, none⟩) (n + 1) ct) ∧ ∀ v, v ≤ n → ∃ a k c, k ≤ 1000000000000 ∧ W.cell? ⟨gt_, v, none⟩ = some (.slice a k c) ∧ ∀ (x : List ByteArray) (ar : Option Addr) (cr : Nat), StrsAt W ar n x → x.length = n → ∃ qs, qs.length = k ∧ TsAt W (.slice ar n cr) a qs ∧ qs.all id = p v (x.take v)
theorem step_push_cur {ops : Array Oper} {o : Oper} {a : Act} {K : Act → World → Prop} {Q : Exit → Act → World → Prop} {E : Prop} (W0 : World) (pc : Nat) (base : Nat) (v : Value) (n : Nat) (l : List Value) (hown : W0.ownsRow base 152 1 v n l) (hn : n ≤ 1000000) (hbase : base ≤ W0.heap.size) (hgd : o.guard = none) (s x : Operand)
    (ho : o.op = .call { callee := .builtin .append, args := #[s, x], argTypes := #[148, 148] }) (hs : a.eval s = v) (hx : a.eval x = .slice (some ⟨W0.heap.size, 0, none⟩) 1 1)
    (h : ∀ g cap w', w'.ownsRow base 152 1 (.slice (some ⟨g, 0, none⟩) (n + 1) cap) (n + 1) (l ++ [ptrV pc]) → (W0.alloc (.cells #[.pointer (some ⟨pc, 0, none⟩)] 152)).grownBy w' v.ownBlock → K (a.put o.dst (.slice (some ⟨g, 0, none⟩) (n + 1) cap)) w') :
    if Region.wanted o (yielded ops a.tmps) = true then Oper.wp Tryz.prog o a (W0.alloc (.cells #[.pointer (some ⟨pc, 0, none⟩)] 152)) K Q else E := by
  obtain ⟨n0, hn0, nz0, nz1, nz2⟩ := info_parts info_cur
  exact step_append_lies _ hgd s x 148 ho base 152 n0 (.pointer none) 1 8 Tryz.underlying148 hn0 nz0 nz1 nz2 rfl (by decide) v n l hs (hown.alloc _) ⟨W0.heap.size, 0, none⟩ 1 1 [.pointer (some ⟨pc, 0, none⟩)] hx rfl (news1 W0 _ _) (by simp [Value.oneCell']) (by omega) (by unfold maxLen; omega) (by omega) (by simp; omega) _ rfl fun g cap w1 hown1 hgrow hat _ => h g cap w1 hown1 hgrow
theorem grown_cellF {w7 w6 : World} {o : Obj} {r : Option Nat} {b : Nat} (h : (w7.alloc o).grownBy w6 r) (hr : r ≠ some b) (hb : b < w7.heap.size) : (∀ k, w6.cell? ⟨b, k, none⟩ = w7.cell? ⟨b, k, none⟩) ∧ ∀ k, w6.frozen? ⟨b, k, none⟩ = w7.frozen? ⟨b, k, none⟩ := by
  have e : w6.heap[b]? = w7.heap[b]? := (h.block b (by simp; omega) (fun e => hr e.symm)).trans ((ext_alloc (Below.refl _ w7 : Ext w7 w7) o).block b hb)
  exact ⟨fun k => World.cell?_of_block e, fun k => by simp [World.frozen?, e]⟩
/-- The search while its cursors are laid: q of them stand. -/
structure LaySt (pm n l : Nat) (ts : List JT) (pts : List Nat) (w W : World) (lo pw : Nat) (pcs : List Nat) (v : Value) (wr : World) : Prop where
  ext : Ext w wr
  sz : W.heap.size ≤ wr.heap.size
  row : wr.ownsRow w.heap.size 9 1 (.slice (some ⟨w.heap.size, 0, none⟩) n n) n (madeCells (Value.string ⟨#[]⟩).cells (n * 1)).toList
  top : wr.cell? ⟨pw, 0, none⟩ = some (.pointer (some ⟨pm, 0, none⟩)) ∧ wr.cell? ⟨pw, 1, none⟩ = some v ∧ wr.frozen? ⟨pw, 1, none⟩ = false ∧ wr.cell? ⟨pw, 2, none⟩ = some (.slice (some ⟨w.heap.size, 0, none⟩) n n) ∧ wr.cell? ⟨pw, 3, none⟩ = some (.func (.yield l) #[] #[])
  own : wr.ownsRow lo 152 1 v pcs.length (pcs.map ptrV)
  cur : ∀ (i : Nat) (t : JT) (pc pt : Nat), ts[i]? = some t → pcs[i]? = some pc → pts[i]? = some pt → KurV wr lo pc pt t.vars.length t.rows (fun b => b = pc) []
  up : pcs.Pairwise (· < ·)
  low : ∀ pc ∈ pcs, lo ≤ pc ∧ pc < wr.heap.size
theorem LaySt.next {pm n l : Nat} {ts : List JT} {pts : List Nat} {w W : World} {lo pw : Nat} {pcs : List Nat} {v : Value} {wr w7 w6 : World} {o : Obj} {q g c pt : Nat} {t : JT} (h : LaySt pm n l ts pts w W lo pw pcs v wr) (hq : pcs.length = q) (ht : ts[q]? = some t) (hpt : pts[q]? = some pt) (e7 : Ext wr w7) (k7 : KurV w7 lo wr.heap.size pt t.vars.length t.rows (fun b => b = wr.heap.size) [])
    (p1 : w6.ownsRow lo 152 1 (.slice (some ⟨g, 0, none⟩) (q + 1) c) (q + 1) (pcs.map ptrV ++ [ptrV wr.heap.size])) (p2 : (w7.alloc o).grownBy w6 v.ownBlock) (hlo : lo = W.heap.size) (hpw : pw < lo) (hwp : w.heap.size < pw) :
    LaySt pm n l ts pts w W lo pw (pcs ++ [wr.heap.size]) (.slice (some ⟨g, 0, none⟩) (q + 1) c) (w6.setCell ⟨pw, 1, none⟩ (.slice (some ⟨g, 0, none⟩) (q + 1) c)) := by
  have hvlt : ∀ b, v.ownBlock = some b → lo ≤ b ∧ b < wr.heap.size := fun b e => h.own.lt b e
  have hpwr : pw < wr.heap.size := by have := h.sz; omega
  have hb1 : ButS (fun b => v.ownBlock = some b ∨ b = pw) w7 w6 := ((ButS.refl _ w7).alloc o).grown p2 (fun b e => .inl (.inl e))
  have hb2 : ButS (fun b => v.ownBlock = some b ∨ b = pw) w7 (w6.setCell ⟨pw, 1, none⟩ (.slice (some ⟨g, 0, none⟩) (q + 1) c)) := hb1.set (.inl (.inr rfl)) _ _
  have hb : ButS (fun b => v.ownBlock = some b ∨ b = pw) wr (w6.setCell ⟨pw, 1, none⟩ (.slice (some ⟨g, 0, none⟩) (q + 1) c)) := ((ButS.refl _ wr).ext e7).trans hb2
  have hnv : v.ownBlock ≠ some pw := fun e => by have := (hvlt _ e).1; omega
  obtain ⟨u1, u2⟩ := grown_cellF p2 hnv (Nat.lt_of_lt_of_le hpwr e7.size)
  have hg := (p1.lt g rfl).1
  have hcell : ∀ k x, k ≠ 1 → wr.cell? ⟨pw, k, none⟩ = some x → (w6.setCell ⟨pw, 1, none⟩ (.slice (some ⟨g, 0, none⟩) (q + 1) c)).cell? ⟨pw, k, none⟩ = some x := fun k x hk hx => by
    rw [World.cell?_setCell_other _ _ _ _ (by intro e; exact hk (by injection e with _ e2; exact e2.symm)), u1 k]
    exact keep e7 hx
  obtain ⟨s0, s1, s2, s3, s4⟩ := h.top
  have hknew : ∃ x, w7.heap[wr.heap.size]? = some x := by
    obtain ⟨rb, sp, ⟨⟨a, c, t1, _⟩, _⟩, _⟩ := k7
    exact ⟨_, t1⟩
  refine ⟨⟨hb.os.trans h.ext.os, hb.tape.trans h.ext.tape, hb.output.trans h.ext.output, Nat.le_trans h.ext.size hb.size, fun b hbl => ?_⟩, Nat.le_trans h.sz hb.size, hb.own h.row (fun b e => ?_), ⟨hcell 0 _ (by decide) s0, ?_, ?_, hcell 2 _ (by decide) s3, hcell 3 _ (by decide) s4⟩, ?_, fun i t' pc pt' a1 a2 a3 => ?_, ?_, fun pc hpc => ?_⟩
  · refine (hb.block b (Nat.lt_of_lt_of_le hbl h.ext.size) (fun hT => ?_)).trans (h.ext.block b hbl)
    rcases hT with hT | hT
    · have := (hvlt b hT).1
      omega
    · omega
  · have e2 : w.heap.size = b := by injection e
    subst e2
    rintro (hT | hT)
    · have := (hvlt _ hT).1
      omega
    · omega
  · exact World.cell?_setCell_same _ _ _ ((u1 1).trans (keep e7 s1))
  · rw [World.frozen?_setCell, u2 1]
    exact (e7.frozen (p := ⟨pw, 1, none⟩) hpwr).trans s2
  · rw [List.length_append, hq, List.map_append]
    exact own_set_other p1 (.inr (fun e => by cases e; omega)) _
  · rcases Nat.lt_or_ge i q with hi | hi
    · rw [List.getElem?_append_left (by omega)] at a2
      have hk := h.cur i t' pc pt' a1 a2 a3
      refine hk.buts hb (fun b e hT => ?_)
      subst e
      rcases hT with hT | hT
      · obtain ⟨rb, sp, ⟨⟨a, c', t1, _⟩, _⟩, _⟩ := hk
        rcases h.own.2 with ⟨rfl, _⟩ | ⟨g2, c2, cur, rfl, _, hg2, _⟩
        · cases hT
        · cases hT
          rw [t1] at hg2
          simp at hg2
      · have := (h.low b (List.mem_of_getElem? a2)).1
        omega
    · obtain rfl : i = q := by
        have := (List.getElem?_eq_some_iff.1 a2).1
        rw [List.length_append, hq] at this
        simp at this
        omega
      rw [List.getElem?_append_right (by omega), hq, Nat.sub_self] at a2
      cases a2
      rw [ht] at a1
      rw [hpt] at a3
      cases a1
      cases a3
      refine k7.buts hb2 (fun b e hT => ?_)
      subst e
      rcases hT with hT | hT
      · have := (hvlt _ hT).2
        omega
      · omega
  · refine List.pairwise_append.2 ⟨h.up, List.pairwise_singleton _ _, fun x hx y hy => ?_⟩
    rw [List.mem_singleton.1 hy]
    exact (h.low x hx).2
  · rcases List.mem_append.1 hpc with hpc | hpc
    · exact ⟨(h.low pc hpc).1, Nat.lt_of_lt_of_le (h.low pc hpc).2 hb.size⟩
    · rw [List.mem_singleton.1 hpc]
      obtain ⟨x, hx⟩ := hknew
      exact ⟨by rw [hlo]; exact h.sz, Nat.lt_of_lt_of_le (Array.getElem?_eq_some_iff.1 hx).1 hb2.size⟩
theorem made_str (n j : Nat) (hj : j < n) : (madeCells (Value.string ⟨#[]⟩).cells (n * 1)).toList[j]? = some (.string ⟨#[]⟩) := by
  simp [madeCells, Value.cells, hj, Nat.mod_one]
theorem run_search {T0 : Nat → Prop} {pm n l : Nat} {ts : List JT} {pts : List Nat} {p : Nat → List ByteArray → Bool} {w W : World} {lo pw : Nat} {pcs : List Nat} {v : Value} {wr : World} (M : MatV w T0 pm n ts pts p) (hB0 : ∀ b, T0 b → b < w.heap.size) (h : LaySt pm n l ts pts w W lo pw pcs v wr) (hq : pcs.length = ts.length) (hpw : pw < lo) (hwp : w.heap.size < pw)
    (J : Taker) (Jx : (Nat → Prop) → World → Prop) (hJ : ∀ done (C T : Nat → Prop) (W W' : World), J done C W → ButS T W W' → (∀ b, T b → ¬ C b) → J done C W') (hJx : ∀ (C T : Nat → Prop) (W W' : World), Jx C W → ButS T W W' → (∀ b, T b → ¬ C b) → Jx C W') (h0 : J [] T0 w)
    (hY : ∀ (done : List (List ByteArray)) (x : List ByteArray) (W : World) (C : Nat → Prop) (a : Option Addr), J done C W → ButS T0 w W → (∀ b, C b → b < W.heap.size) → x.length = n → StrsAt W a n x → (∀ b, (Value.slice a n n).ownBlock = some b → ¬ C b) → (∀ t ∈ ts, t.vars.map (gt x) ∈ t.rows) →
      YieldAt Fence.wide 3 Tryz.prog l #[.slice a n n] W fun e W' => ∃ C', ((e = .returned (.bool true) ∧ J (done ++ [x]) C' W') ∨ (e = .returned (.bool false) ∧ Jx C' W')) ∧ ButS C W W' ∧ (∀ b, C' b → C b ∨ W.heap.size ≤ b) ∧ ∀ b, C' b → b < W'.heap.size) :
    Calls Tryz.prog 89 #[.pointer (some ⟨pw, 0, none⟩), .int .i64 0] wr fun e w' => (∃ b : Bool, e = .returned (.bool b)) ∧ ∃ C, J (binds ts p n 0 []) C w' ∨ Jx C w' := by
  let sc : Scn := ⟨wr, fun b => T0 b ∨ b = w.heap.size ∨ b ∈ pcs, pw, pm, w.heap.size, n, n, .func (.yield l) #[] #[], ts, pcs, pts, p, lo⟩
  obtain ⟨s0, s1, s2, s3, s4⟩ := h.top
  have hnn := M.nn
  have envW : ∀ W', ButS sc.T wr W' → ButS T0 w W' := fun W' hb => env_step ((ButS.refl _ w).ext h.ext) hb (fun b hT => by
    rcases hT with hT | hT | hT
    · exact .inl hT
    · exact .inr (by omega)
    · exact .inr (by have := (h.low b hT).1; omega))
  have npw : ¬ sc.T pw := by
    rintro (hT | hT | hT)
    · have := hB0 _ hT; omega
    · omega
    · have := (h.low pw hT).1
      omega
  have ST : Sta sc := ⟨M.jok, M.big, M.all, ⟨by show n ≤ _; omega, by show ts.length ≤ _; omega⟩, ⟨hq, M.lens⟩, fun W' hb i t pt a b => by
    obtain ⟨aT, ct, htr⟩ := M.tries
    exact (htr W' (envW W' hb)).2.2 i t pt a b, fun W' hb => ⟨hb.cell npw s0, hb.cell npw s3, hb.cell npw s4⟩⟩
  have SB : Stb sc := by
    refine ⟨fun hn => ?_, ?_, ?_, fun v W' x hv hb hx hr => ?_⟩
    · obtain ⟨t0, ht0, _⟩ := M.all 0 hn
      have hpos : 0 < pcs.length := by rw [hq]; exact List.length_pos_of_mem ht0
      obtain ⟨g, cg, rfl, _⟩ := own_formS h.own hpos
      have hg := (h.own.lt g rfl).1
      have ng : ¬ sc.T g := by
        rintro (hT | hT | hT)
        · have := hB0 _ hT; omega
        · omega
        · obtain ⟨i, hi⟩ := List.mem_iff_getElem?.1 hT
          have hil := (List.getElem?_eq_some_iff.1 hi).1
          have hi1 : i < ts.length := by omega
          have hi2 : i < pts.length := by rw [M.lens]; omega
          obtain ⟨rb, sp, ⟨⟨a, c', t1, _⟩, _⟩, _⟩ := h.cur i ts[i] g pts[i] (List.getElem?_eq_getElem hi1) hi (List.getElem?_eq_getElem hi2)
          rcases h.own.2 with ⟨e, _⟩ | ⟨g2, c2, cur, e, _, hg2, _⟩
          · cases e
          · cases e
            rw [t1] at hg2
            simp at hg2
      refine ⟨g, cg, fun W' hb => ⟨?_, fun i pc hi => ?_⟩⟩
      · have := hb.cell npw s1
        rw [hq] at this
        exact this
      · have := h.own.cells (g := g) rfl i (ptrV pc) (by rw [List.getElem?_map, hi]; rfl)
        rw [Addr.add_lit, Nat.zero_add] at this
        exact hb.cell ng this
    · obtain ⟨an, cn, hnm⟩ := M.names
      exact ⟨an, cn, fun W' hb => hnm W' (envW W' hb)⟩
    · obtain ⟨ga, ca, f, g, hat⟩ := M.at_
      exact ⟨ga, ca, f, g, fun W' hb => hat W' (envW W' hb)⟩
    · obtain ⟨gt_, ct, hte⟩ := M.tests
      obtain ⟨k3, k4⟩ := hte W' (envW W' hb)
      obtain ⟨a, k, c, k5, k6, k7⟩ := k4 v hv
      obtain ⟨qs, q1, q2, q3⟩ := k7 x (some ⟨w.heap.size, 0, none⟩) n ⟨by unfold maxLen; omega, hx, fun i z hz => ⟨w.heap.size, 0, rfl, by rw [Nat.mul_one, Nat.zero_add]; exact (hr i z hz).1⟩⟩ hx
      have q4 : sc.p v (x.take v) = qs.all id := q3.symm
      rw [q4]
      exact c_passes qs a k c pw pm gt_ v (n + 1) ct _ n n W' q1 k5 q2 (hb.cell npw s3) (hb.cell npw s0) k3 (by show v < n + 1; have : v ≤ n := hv; omega) k6
  have hJs : ∀ done, Stable sc (J done) := fun done C T W W' j hb hT => hJ done C T W W' j hb (fun b hb => (hT b hb).1)
  have hJxs : Stable sc Jx := fun C T W W' j hb hT => hJx C T W W' j hb (fun b hb => (hT b hb).1)
  have hYo : YieldOk sc l J Jx := fun done x W' C a j hb hC hx hs ho hlv => hY done x W' C a j (envW W' hb) (fun b hb => (hC b hb).1) hx hs (fun b hb => (ho b hb).1) hlv
  have hgr : w.heap.size < wr.heap.size := (h.row.lt _ rfl).2
  have W0 : WSt sc (J []) wr [] (fun _ => []) (fun b => b = w.heap.size ∨ T0 b ∨ ∃ i : Nat, pcs[i]? = some b) := by
    refine ⟨ButS.refl _ _, fun b hb => ?_, fun b hb => ?_, List.replicate n ⟨#[]⟩, fun (i b : Nat) => pcs[i]? = some b, T0, ⟨by simp; rfl, rfl, fun j y hy => ?_⟩, fun i t pc pt a1 a2 a3 => ?_, fun i j b hij h1 h2 => ?_, fun i b hb => ?_, by show ¬ T0 w.heap.size; exact fun q => absurd (hB0 _ q) (Nat.lt_irrefl _), hJ [] _ _ _ _ h0 (ext_but h.ext) (fun _ h => h.elim), fun b => Iff.rfl⟩
    · rcases hb with hb | hb | ⟨i, hb⟩
      · exact .inl (.inr (.inl hb))
      · exact .inl (.inl hb)
      · exact .inl (.inr (.inr (List.mem_of_getElem? hb)))
    · rcases hb with rfl | hb | ⟨i, hb⟩
      · exact hgr
      · have := hB0 _ hb; omega
      · exact (h.low b (List.mem_of_getElem? hb)).2
    · obtain ⟨hj, e⟩ := List.getElem?_eq_some_iff.1 hy
      rw [List.length_replicate] at hj
      rw [List.getElem_replicate] at e
      subst e
      have hc := h.row.cells (g := w.heap.size) rfl j _ (made_str n j hj)
      rw [Addr.add_lit, Nat.zero_add] at hc
      refine ⟨hc, ?_⟩
      rcases h.row.2 with ⟨e, _⟩ | ⟨g2, c2, cur, e, _, hg2, _⟩
      · cases e
      · cases e
        show wr.frozen? ⟨w.heap.size, j, none⟩ = false
        simp [World.frozen?, hg2]
    · exact h.cur i t pc pt a1 a2 a3 |> fun k => by
        have e : (fun b : Nat => pcs[i]? = some b) = fun b => b = pc := by
          funext b
          have a2' : pcs[i]? = some pc := a2
          rw [a2']
          exact propext ⟨fun e => by injection e with e; exact e.symm, fun e => by rw [e]⟩
        show KurV wr lo pc pt t.vars.length t.rows (fun b : Nat => pcs[i]? = some b) []
        rw [e]
        exact k
    · obtain ⟨i1, e1⟩ := List.getElem?_eq_some_iff.1 h1
      obtain ⟨i2, e2⟩ := List.getElem?_eq_some_iff.1 h2
      rcases Nat.lt_trichotomy i j with hlt | hlt | hlt
      · have := (List.pairwise_iff_getElem.1 h.up) i j i1 i2 hlt
        omega
      · exact hij hlt
      · have := (List.pairwise_iff_getElem.1 h.up) j i i2 i1 hlt
        omega
    · have := (h.low b (List.mem_of_getElem? hb)).1
      refine ⟨by show b ≠ w.heap.size; omega, by show ¬ T0 b; exact fun q => by have := hB0 b q; omega⟩
  have FR := c_from sc l J Jx ST SB hJs hJxs rfl hYo n 0 (Nat.zero_add _) [] [] wr (fun _ => []) _ rfl W0 ⟨Live.zero (n := n) M.jok _, fun i t _ => ⟨by simp [rkeys, JT.pre], rfl⟩⟩
  refine FR.mono fun e w' hp => ?_
  rcases hp with ⟨rfl, F', hw, _⟩ | ⟨rfl, F', hw, _⟩
  · obtain ⟨C, jc, _⟩ := hw.taken
    exact ⟨⟨_, rfl⟩, C, .inl (by simpa using jc)⟩
  · obtain ⟨C, jc, _⟩ := hw.taken
    exact ⟨⟨_, rfl⟩, C, .inr jc⟩
set_option maxRecDepth 100000 in
set_option maxHeartbeats 4000000 in
theorem c_all_ (T0 : Nat → Prop) (pm n l : Nat) (ts : List JT) (pts : List Nat) (p : Nat → List ByteArray → Bool) (w : World) (M : MatV w T0 pm n ts pts p) (hB0 : ∀ b, T0 b → b < w.heap.size)
    (J : Taker) (Jx : (Nat → Prop) → World → Prop) (hJ : ∀ done (C T : Nat → Prop) (W W' : World), J done C W → ButS T W W' → (∀ b, T b → ¬ C b) → J done C W') (hJx : ∀ (C T : Nat → Prop) (W W' : World), Jx C W → ButS T W W' → (∀ b, T b → ¬ C b) → Jx C W') (h0 : J [] T0 w)
    (hY : ∀ (done : List (List ByteArray)) (x : List ByteArray) (W : World) (C : Nat → Prop) (a : Option Addr), J done C W → ButS T0 w W → (∀ b, C b → b < W.heap.size) → x.length = n → StrsAt W a n x → (∀ b, (Value.slice a n n).ownBlock = some b → ¬ C b) → (∀ t ∈ ts, t.vars.map (gt x) ∈ t.rows) →
      YieldAt Fence.wide 3 Tryz.prog l #[.slice a n n] W fun e W' => ∃ C', ((e = .returned (.bool true) ∧ J (done ++ [x]) C' W') ∨ (e = .returned (.bool false) ∧ Jx C' W')) ∧ ButS C W W' ∧ (∀ b, C' b → C b ∨ W.heap.size ≤ b) ∧ ∀ b, C' b → b < W'.heap.size) :
    Calls Tryz.prog 71 #[.pointer (some ⟨pm, 0, none⟩), .func (.yield l) #[] #[]] w fun e w' => (∃ v, e = .returned v) ∧ ∃ C, J (binds ts p n 0 []) C w' ∨ Jx C w' := by
  have HM := Lib.hid M
  have HJ := Lib.hid hJ
  have HJX := Lib.hid hJx
  have H0 := Lib.hid h0
  have HY := Lib.hid hY
  clear hJ hJx h0 hY
  obtain ⟨an, cn, hnm⟩ := M.names
  obtain ⟨aT, ct, htr⟩ := M.tries
  have hnn := M.nn
  have hr0 : ButS T0 w w := ButS.refl _ _
  have n0 := hnm w hr0
  obtain ⟨t0, t1, t2⟩ := htr w hr0
  have zp := World.block_lt_of_cell? _ _ n0
  dsimp only at zp
  have HTR := Lib.hid htr
  obtain ⟨j0, hj, yz0, yz1, yz2⟩ := info_parts info_str
  have MK : Hid (∀ w2 : World, ∃ wm, (Instr.makeSlice 46 (.int .i64 (n : Int)) (.int .i64 (n : Int))).run Tryz.prog w2 = .ok (.slice (some ⟨w2.heap.size, 0, none⟩) n n) wm ∧ wm.ownsRow w2.heap.size 9 1 (.slice (some ⟨w2.heap.size, 0, none⟩) n n) n (madeCells (Value.string ⟨#[]⟩).cells (n * 1)).toList ∧ w2.grownBy wm none) := fun w2 => run_make_full (P := Tryz.prog) w2 w2.heap.size 46 9 j0 (.string ⟨#[]⟩) 1 Tryz.underlying46 hj yz0 yz1 .i64 .i64 n (by rw [yz2]; omega) (by unfold maxLen; omega) (Nat.le_refl _)
  obtain ⟨wm, hmk, om, gm⟩ := MK.out w
  have em : Ext w wm := ⟨gm.os, gm.tape, gm.output, gm.size, fun i hi => gm.block i hi (by simp)⟩
  have q0 := keep em t0
  have zpm : pm < wm.heap.size := Nat.lt_of_lt_of_le zp em.size
  clear hr0 hnm t1 t2 M htr MK
  go_enter Tryz.func71, Tryz.ntmps71
  have hgw : w.heap.size < wm.heap.size := (om.lt w.heap.size rfl).2
  have HOM := Lib.hid om
  have HEM := Lib.hid em
  go_wp2
  refine wp_gen (fun W hW => ?_)
  have hE : Ext w W := by rw [hW]; exact ext_alloc em _
  have START : Hid (LaySt pm n l ts pts w W W.heap.size wm.heap.size [] (.slice none 0 0) W) := by
    refine ⟨hE, Nat.le_refl _, ?_, ?_, World.ownsRow_nil _ _ _ _, fun i t pc pt _ h => by simp at h, List.Pairwise.nil, fun pc h => by cases h⟩
    · rw [hW]
      exact HOM.out.alloc _
    rw [hW]
    exact ⟨by go_simp, by go_simp, by go_simp, by go_simp, by go_simp⟩
  have hz : wm.heap.size < W.heap.size := by rw [hW]; simp
  have HE := Lib.hid hE
  clear hW hmk om gm em q0 t0 n0 hE
  go_loopw [22] (fun iv wr => ∃ (pcs : List Nat) (v : Value), iv = .int .i64 (pcs.length : Nat) ∧ pcs.length ≤ ts.length ∧ LaySt pm n l ts pts w W W.heap.size wm.heap.size pcs v wr) (fun iv _ => ts.length - (intOf iv).toNat)
  case atStart => exact ⟨[], _, rfl, Nat.zero_le _, START.out⟩
  case round =>
    clear START
    obtain ⟨pcs, v, rfl, hle, hst⟩ := hrel
    have ST := Lib.hid hst
    obtain ⟨s0, s1, s2, s3, s4⟩ := hst.top
    obtain ⟨q, hq⟩ : ∃ q, pcs.length = q := ⟨_, rfl⟩
    rw [hq] at hle ⊢
    have HQ := Lib.hid hq
    clear hst hq
    by_cases hlt : q < ts.length
    · obtain ⟨t, ht⟩ : ∃ t, ts[q]? = some t := ⟨_, List.getElem?_eq_getElem hlt⟩
      obtain ⟨pt, hpt⟩ : ∃ pt, pts[q]? = some pt := ⟨_, List.getElem?_eq_getElem (by rw [HM.out.lens]; exact hlt)⟩
      have hbw : ButS T0 w wr := (ButS.refl _ _).ext ST.out.ext
      obtain ⟨_, r2, r3⟩ := HTR.out wr hbw
      obtain ⟨b, o, rfl, hcell⟩ := r2 q pt hpt
      have TR := Lib.hid (r3 q t pt ht hpt)
      have HTQ := Lib.hid ht
      have HPT := Lib.hid hpt
      clear ht hpt
      have WK : Hid (∀ W2, Ext wr W2 → Calls Tryz.prog 88 #[.pointer (some ⟨pt, 0, none⟩)] W2 fun e w' => e = .returned (.pointer (some ⟨W2.heap.size, 0, none⟩)) ∧ KurV w' W.heap.size W2.heap.size pt t.vars.length t.rows (fun b => b = W2.heap.size) [] ∧ Ext W2 w') := fun W2 h2 => k_walk (TR.out.ext h2) (Nat.le_trans ST.out.sz h2.size)
      have WK2 : Hid (∀ W2, Ext wr W2 → W2.heap.size = wr.heap.size → Calls Tryz.prog 88 #[.pointer (some ⟨pt, 0, none⟩)] W2 fun e w' => e = .returned (.pointer (some ⟨wr.heap.size, 0, none⟩)) ∧ KurV w' W.heap.size wr.heap.size pt t.vars.length t.rows (fun b => b = wr.heap.size) [] ∧ Ext W2 w') := fun W2 h2 e2 => by
        have := WK.out W2 h2
        rw [e2] at this
        exact this
      have WKD := Lib.hid (WK2.out wr.drew (ext_drew (Below.refl _ _)) rfl)
      have hq6 : q ≤ 1000000 := by omega
      have OWN : Hid (wr.ownsRow W.heap.size 152 1 v q (pcs.map ptrV)) := by
        show World.ownsRow _ _ _ _ _ _ _
        rw [← HQ.out]
        exact ST.out.own
      have hvb : v.ownBlock ≠ some wm.heap.size := fun e => by
        have := (OWN.out.lt _ e).1
        omega
      have hpw : wm.heap.size < wr.heap.size := Nat.lt_of_lt_of_le hz ST.out.sz
      clear r2 r3 hbw WK
      go_upto_region 4 with (fail)
      go_region_law (first
        | (refine step_push_cur w7 wr.heap.size W.heap.size v q (pcs.map ptrV) OW7.out hq6 HZ7.out (by rfl) _ _ (by rfl) (by rfl) (by rfl) ?_; intro g6 c6 w6 p1 p2; obtain ⟨u1, u2⟩ := grown_cellF p2 hvb hpw7; have u3 := (u1 1).trans y1; have u4 := (u2 1).trans y2; have P1 := Lib.hid p1; have P2 := Lib.hid p2; clear p1 p2 u1 u2)
        | (go_simp; go_wp2_with (go_at_call 88; (with_reducible refine WKD.out.mono ?_); rintro e w7 ⟨rfl, k7, e7⟩; have E7 : Ext wr w7 := ext_trans (ext_drew (Below.refl _ wr)) e7; have y1 := keep E7 s1; have y2 : w7.frozen? ⟨wm.heap.size, 1, none⟩ = false := (E7.frozen (p := ⟨wm.heap.size, 1, none⟩) hpw).trans s2; have OW7 := Lib.hid (up_ext OWN.out E7); have HZ7 : Hid (W.heap.size ≤ w7.heap.size) := Nat.le_trans ST.out.sz E7.size; have hpw7 : wm.heap.size < w7.heap.size := Nat.lt_of_lt_of_le hpw E7.size; have y3 : (w7.alloc (.cells #[.pointer (some ⟨wr.heap.size, 0, none⟩)] 152)).cell? ⟨wm.heap.size, 1, none⟩ = some v := keep (ext_alloc (Below.refl _ w7) _) y1))
        | fail)
      all_goals
        go_wp2
        go_roundw
        case rel => exact ⟨pcs ++ [wr.heap.size], _, by rw [List.length_append, HQ.out]; simp, by rw [List.length_append, HQ.out]; exact hlt, ST.out.next HQ.out HTQ.out HPT.out E7 k7 P1.out P2.out rfl hz hgw⟩
        case measure => simp [intOf]; omega
    · obtain rfl : q = ts.length := by omega
      have FRM : Hid (Calls Tryz.prog 89 #[.pointer (some ⟨wm.heap.size, 0, none⟩), .int .i64 0] wr fun e w' => (∃ b : Bool, e = .returned (.bool b)) ∧ ∃ C, J (binds ts p n 0 []) C w' ∨ Jx C w') := run_search HM.out hB0 ST.out HQ.out hz hgw J Jx HJ.out HJX.out H0.out HY.out
      go_wp2_with (go_at_call 89; (with_reducible refine FRM.out.mono ?_); rintro e w7 ⟨⟨b7, rfl⟩, C7, j7⟩)
      go_end0
      exact ⟨⟨_, rfl⟩, C7, j7⟩
end Go.Proofs.YtpgbenijjodoeaaGreat
