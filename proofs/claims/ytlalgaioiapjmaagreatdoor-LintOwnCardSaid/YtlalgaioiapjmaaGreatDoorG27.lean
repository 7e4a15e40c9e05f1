/- What lint's findings are while they are told: a list that grows, and what may be written. The walk of the closure by which lint's looks tell, and what a look is called with. The walk of lint.never. The walks of lint's looks at a rule by itself: Never, Always, Twice. -/
import Derived.Test.YtlalgaioiapjmaaGreatDoorG26
namespace Go.Proofs.YtlalgaioiapjmaaGreatDoor
open Go.ChangeShapes Go.WideShapes Go.ChangeAt Go.RowKit
open K (Finding)
/-- A finding as it lies. -/
def valsF (x : Finding) : List Value := [.int .i64 x.kind, .int .i64 (x.rule : Nat), .int .i64 (x.literal : Nat), .string x.name]
def flatF (xs : List Finding) : List Value := xs.flatMap valsF
theorem flatF_len (xs : List Finding) : (flatF xs).length = xs.length * 4 := by
  induction xs with
  | nil => rfl
  | cons x xs ih => simp only [flatF, valsF, List.flatMap_cons, List.length_append, List.length_cons, List.length_nil] at ih ⊢; omega
theorem flatF_snoc (xs : List Finding) (x : Finding) : flatF (xs ++ [x]) = flatF xs ++ valsF x := by simp [flatF]
theorem info_find : (Tryz.prog.info? 37).map (fun i => (i.zero, i.size, i.bytes)) = some (some (.agg #[.int .i64 0, .int .i64 0, .int .i64 0, .string ⟨#[]⟩]), 4, 40) := by kernel_rfl
/-- The findings F so far: C = the blocks that hold them. -/
structure FJ (ob base : Nat) (F : List Finding) (C : Nat → Prop) (W : World) : Prop where
  ex : ∃ a c, Blk W ob 29 [.slice a F.length c] ∧ W.ownsRow base 37 4 (.slice a F.length c) F.length (flatF F) ∧ (∀ x, C x ↔ (x = ob ∨ (Value.slice a F.length c).ownBlock = some x)) ∧ (Value.slice a F.length c).ownBlock ≠ some ob
  lo : base ≤ ob
section
variable {ob base : Nat} {F F' : List Finding} {C C' : Nat → Prop} {W W' wr w' : World}
theorem FJ.up (h : FJ ob base F C W) (e : Ext W W') : FJ ob base F C W' := by
  obtain ⟨a, c, h1, h2, h3, h4⟩ := h.ex
  exact ⟨⟨a, c, h1.ext e, up_ext h2 e, h3, h4⟩, h.lo⟩
theorem FJ.low (h : FJ ob base F C W) {x : Nat} (hx : C x) : base ≤ x ∧ x < W.heap.size := by
  obtain ⟨a, c, h1, h2, h3, h4⟩ := h.ex
  rcases (h3 x).1 hx with rfl | hb
  · exact ⟨h.lo, h1.lt⟩
  · exact h2.lt x hb
/-- While a look tells: from W on (C being the findings' blocks then) nothing but they was written. -/
def FS (ob base : Nat) (C : Nat → Prop) (W : World) (F : List Finding) (wr : World) : Prop :=
  ∃ C', FJ ob base F C' wr ∧ (∀ x, C' x → C x ∨ W.heap.size ≤ x) ∧ ButS C W wr
theorem FS.start (h : FJ ob base F C W) : FS ob base C W F W := ⟨C, h, fun _ hx => .inl hx, ButS.refl _ _⟩
theorem FS.up (h : FS ob base C W F wr) (e : Ext wr w') : FS ob base C W F w' := by
  obtain ⟨C', h1, h2, h3⟩ := h
  exact ⟨C', h1.up e, h2, h3.ext e⟩
/-- One stretch behind another. -/
theorem FS.comp {C' : Nat → Prop} (hC : ∀ x, C' x → C x ∨ W.heap.size ≤ x) (hb : ButS C W W') (h : FS ob base C' W' F wr) : FS ob base C W F wr := by
  obtain ⟨C2, h1, h2, h3⟩ := h
  refine ⟨C2, h1, fun x hx => ?_, ⟨h3.os.trans hb.os, h3.tape.trans hb.tape, h3.output.trans hb.output, Nat.le_trans hb.size h3.size, fun b hlt hn => ?_⟩⟩
  · rcases h2 x hx with h | h
    · exact hC x h
    · exact .inr (Nat.le_trans hb.size h)
  · refine (h3.block b (Nat.lt_of_lt_of_le hlt hb.size) (fun hc => ?_)).trans (hb.block b hlt hn)
    rcases hC b hc with h | h
    · exact hn h
    · omega
theorem FS.block (h : FS ob base C W F wr) {b : Nat} (hb : b < W.heap.size) (hn : ¬ C b) : wr.heap[b]? = W.heap[b]? := by
  obtain ⟨C', _, _, h3⟩ := h
  exact h3.block b hb hn
theorem FS.cell (h : FS ob base C W F wr) {b o : Nat} {v : Value} (hn : ¬ C b) (hc : W.cell? ⟨b, o, none⟩ = some v) : wr.cell? ⟨b, o, none⟩ = some v := by
  obtain ⟨C', _, _, h3⟩ := h
  exact h3.cell hn hc
theorem FS.size (h : FS ob base C W F wr) : W.heap.size ≤ wr.heap.size := by
  obtain ⟨C', _, _, h3⟩ := h
  exact h3.size
theorem FS.keepExt {w0 : World} (h : FS ob base C W F wr) (e : Ext w0 W) (hC : ∀ x, C x → w0.heap.size ≤ x) : Ext w0 wr := by
  obtain ⟨C', _, _, h3⟩ := h
  exact ⟨h3.os.trans e.os, h3.tape.trans e.tape, h3.output.trans e.output, Nat.le_trans e.size h3.size, fun b hb => (h3.block b (Nat.lt_of_lt_of_le hb e.size) (fun hc => by have := hC b hc; omega)).trans (e.block b hb)⟩
/-- A finding is put behind the others. -/
theorem FS.push (h : FS ob base C W F wr) (z : Finding) : ∃ (a : Option Addr) (c : Nat), Blk wr ob 29 [.slice a F.length c] ∧ wr.ownsRow base 37 4 (.slice a F.length c) F.length (flatF F) ∧
    ∀ (o : Obj) (w6 : World) (g c' : Nat), w6.ownsRow base 37 4 (.slice (some ⟨g, 0, none⟩) (F.length + 1) c') (F.length + 1) (flatF F ++ valsF z) → (wr.alloc o).grownBy w6 (Value.slice a F.length c).ownBlock → ((Value.slice a F.length c).ownBlock = some g ∨ wr.heap.size < g) →
      Blk w6 ob 29 [.slice a F.length c] ∧ FS ob base C W (F ++ [z]) (w6.setCell ⟨ob, 0, none⟩ (.slice (some ⟨g, 0, none⟩) (F.length + 1) c')) := by
  obtain ⟨C', hT, hC, hB⟩ := h
  obtain ⟨a, c, h1, h2, h3, h4⟩ := hT.ex
  refine ⟨a, c, h1, h2, fun o w6 g c' own6 gr hat => ?_⟩
  have eA := ext_alloc (Below.refl _ wr : Ext wr wr) o
  have b6 : ButS C' wr w6 := ((ButS.refl C' wr).ext eA).grown gr (fun b hb => .inl ((h3 b).2 (.inr hb)))
  have b6' : ButS (fun x => (Value.slice a F.length c).ownBlock = some x) wr w6 := ((ButS.refl _ wr).ext eA).grown gr (fun b hb => .inl hb)
  have B6 := h1.but b6' h4
  have gob : g ≠ ob := by
    rcases hat with hat | hat
    · rintro rfl; exact h4 hat
    · have := h1.lt; omega
  have bS : ButS (fun x => x = ob) w6 (w6.setCell ⟨ob, 0, none⟩ (.slice (some ⟨g, 0, none⟩) (F.length + 1) c')) := (ButS.refl (fun x => x = ob) w6).set (.inl rfl) _ _
  have bA : ButS C' wr (w6.setCell ⟨ob, 0, none⟩ (.slice (some ⟨g, 0, none⟩) (F.length + 1) c')) := b6.set (.inl ((h3 ob).2 (.inl rfl))) _ _
  have gC : C' g ∨ wr.heap.size ≤ g := by
    rcases hat with hat | hat
    · exact .inl ((h3 g).2 (.inr hat))
    · exact .inr (by omega)
  refine ⟨B6, (fun x => x = ob ∨ x = g), ⟨⟨some ⟨g, 0, none⟩, c', ?_, ?_, fun x => ?_, ?_⟩, hT.lo⟩, fun x hx => ?_, ?_⟩
  · rw [List.length_append]
    exact B6.set 0 (.slice (some ⟨g, 0, none⟩) (F.length + 1) c')
  · rw [List.length_append, flatF_snoc]
    exact bS.own own6 (fun b hb hx => by
      have hb : some g = some b := hb
      cases hb
      exact gob hx)
  · constructor
    · rintro (e | e)
      · exact .inl e
      · exact .inr (by rw [e]; rfl)
    · rintro (e | e)
      · exact .inl e
      · exact .inr (by have e : some g = some x := e; cases e; rfl)
  · intro e
    have e : some g = some ob := e
    cases e
    exact gob rfl
  · have hx2 : C' x ∨ wr.heap.size ≤ x := by
      rcases hx with e | e
      · exact .inl ((h3 x).2 (.inl e))
      · rw [e]; exact gC
    rcases hx2 with h | h
    · exact hC x h
    · exact .inr (Nat.le_trans hB.size h)
  · refine ⟨bA.os.trans hB.os, bA.tape.trans hB.tape, bA.output.trans hB.output, Nat.le_trans hB.size bA.size, fun b hlt hn => ?_⟩
    refine (bA.block b (Nat.lt_of_lt_of_le hlt hB.size) (fun hc => ?_)).trans (hB.block b hlt hn)
    rcases hC b hc with h | h
    · exact hn h
    · omega
end
end Go.Proofs.YtlalgaioiapjmaaGreatDoor
namespace Go.Proofs.YtlalgaioiapjmaaGreatDoor
open Go.ChangeShapes Go.WideShapes Go.ChangeAt Go.RowKit
open K (Finding Rule)
theorem wpList_push_fnd {ops : Array Oper} {rest : List Oper} {o : Oper} {a : Act} {Q : Exit → Act → World → Prop} (W0 : World) (z : Finding) (base : Nat) (fa : Option Addr) (n fc : Nat) (l : List Value) (hown : W0.ownsRow base 37 4 (.slice fa n fc) n l) (hn : n ≤ 2000000000) (hbase : base ≤ W0.heap.size) (hgd : o.guard = none) (so xo : Operand)
    (ho : o.op = .call { callee := .builtin .append, args := #[so, xo], argTypes := #[29, 29] }) (hs : a.eval so = .slice fa n fc) (hx : a.eval xo = .slice (some ⟨W0.heap.size, 0, none⟩) 1 1)
    (h : ∀ g cap w', w'.ownsRow base 37 4 (.slice (some ⟨g, 0, none⟩) (n + 1) cap) (n + 1) (l ++ valsF z) → (W0.alloc (.cells (valsF z).toArray 37)).grownBy w' (Value.slice fa n fc).ownBlock → ((Value.slice fa n fc).ownBlock = some g ∨ W0.heap.size < g) → wpList Tryz.prog ops Q rest (a.put o.dst (.slice (some ⟨g, 0, none⟩) (n + 1) cap)) w') :
    wpList Tryz.prog ops Q (o :: rest) a (W0.alloc (.cells (valsF z).toArray 37)) := by
  obtain ⟨n0, hn0, nz0, nz1, nz2⟩ := info_parts info_find
  exact wpList_append_one _ hgd so xo 29 ho base 37 n0 (.agg #[.int .i64 0, .int .i64 0, .int .i64 0, .string ⟨#[]⟩]) 4 40 Tryz.underlying29 hn0 nz0 nz1 nz2 rfl (by decide) _ n _ l hs (hown.alloc _) ⟨W0.heap.size, 0, none⟩ 1 (valsF z) hx rfl (fun j x hj => by
    have hB := Blk.new W0 (valsF z) 37
    rw [Addr.add_lit, Nat.zero_add]
    exact hB.cell hj) (fun u hu => by simp [valsF] at hu; rcases hu with rfl | rfl | rfl | rfl <;> rfl) (by unfold maxLen; omega) (by omega) (by simp; omega) fun g cap w1 hown1 hgrow hat _ => h g cap w1 hown1 hgrow (hat.imp id fun e => by rw [e]; simp)
set_option maxHeartbeats 4000000 in
theorem c_tell (i : Nat) (s : ByteArray) (kd : Int) (n lb nb ob base : Nat) (C : Nat → Prop) (F : List Finding) (W wr : World) (h : FS ob base C W F wr) (hk : wr.cell? ⟨lb, 0, none⟩ = some (.int .i64 kd)) (hn : wr.cell? ⟨nb, 0, none⟩ = some (.int .i64 (n : Nat))) (hF : F.length ≤ 1000000000) :
    Calls Tryz.prog 18 #[.int .i64 (i : Nat), .string s, .pointer (some ⟨ob, 0, none⟩), .pointer (some ⟨lb, 0, none⟩), .pointer (some ⟨nb, 0, none⟩)] wr fun e w' => e = .returned (.tuple #[]) ∧ FS ob base C W (F ++ [⟨kd, n, i, s⟩]) w' := by
  obtain ⟨a, c, B, own, step⟩ := h.push ⟨kd, n, i, s⟩
  have x0 := B.cell (i := 0) rfl
  have hlt := B.lt
  have hlo : base ≤ ob := by
    obtain ⟨_, h1, _, _⟩ := h
    exact h1.lo
  have ST := Lib.hid step
  have OW := Lib.hid own
  obtain ⟨m, hm⟩ : ∃ m, F.length = m := ⟨_, rfl⟩
  rw [hm] at x0 hF
  rw [hm] at OW ST
  clear h B own step hm
  have hm2 : m ≤ 2000000000 := by omega
  have hb : base ≤ wr.heap.size := by omega
  go_enter Tryz.func18, Tryz.ntmps18
  go_wp2_with (at_builtin; refine wpList_push_fnd wr ⟨kd, n, i, s⟩ base a m c _ OW.out hm2 hb rfl _ _ rfl rfl rfl ?_; intro g c6 w6 p1 p2 p3; obtain ⟨B6, S6⟩ := ST.out _ w6 g c6 p1 p2 p3; have z0 := B6.cell (i := 0) rfl; have zf := B6.free 0; have P6 := Lib.hid S6; clear p1 p2 p3 B6 S6)
  go_end0
  exact ⟨rfl, P6.out⟩
/-- What a look is called with. -/
structure LookIn (w0 : World) (ob base lb nb : Nat) (kd : Int) (n : Nat) (F : List Finding) (C : Nat → Prop) (W : World) : Prop where
  fj : FJ ob base F C W
  kind : W.cell? ⟨lb, 0, none⟩ = some (.int .i64 kd)
  rule : W.cell? ⟨nb, 0, none⟩ = some (.int .i64 (n : Nat))
  nl : ¬ C lb
  nn : ¬ C nb
  few : F.length ≤ 999000000
  ext : Ext w0 W
  far : ∀ x, C x → w0.heap.size ≤ x
theorem LookIn.up {w0 W W' : World} {ob base lb nb n : Nat} {kd : Int} {F : List Finding} {C : Nat → Prop} (h : LookIn w0 ob base lb nb kd n F C W) (e : Ext W W') : LookIn w0 ob base lb nb kd n F C W' :=
  ⟨h.fj.up e, keep e h.kind, keep e h.rule, h.nl, h.nn, h.few, ext_trans h.ext e, h.far⟩
/-- What a look brings: these findings, in whatever order. -/
def LookPost (ob base : Nat) (C : Nat → Prop) (W : World) (F G : List Finding) (e : Ending) (w' : World) : Prop := e = .returned (.tuple #[]) ∧ ∃ G', G'.Perm G ∧ FS ob base C W (F ++ G') w'
theorem LookPost.mk {ob base : Nat} {C : Nat → Prop} {W W1 w' : World} {F G : List Finding} (e : Ext W W1) (h : FS ob base C W1 (F ++ G) w') : LookPost ob base C W F G (.returned (.tuple #[])) w' :=
  ⟨rfl, G, .refl _, h.comp (fun _ hx => .inl hx) ⟨e.os, e.tape, e.output, e.size, fun b hb _ => e.block b hb⟩⟩
theorem LookIn.tell {w0 W wr : World} {ob base lb nb n : Nat} {kd : Int} {F G : List Finding} {C : Nat → Prop} (h : LookIn w0 ob base lb nb kd n F C W) (hs : FS ob base C W (F ++ G) wr) (hG : G.length ≤ 100000) (i : Nat) (s : ByteArray) :
    Calls Tryz.prog 18 #[.int .i64 (i : Nat), .string s, .pointer (some ⟨ob, 0, none⟩), .pointer (some ⟨lb, 0, none⟩), .pointer (some ⟨nb, 0, none⟩)] wr fun e w' => e = .returned (.tuple #[]) ∧ FS ob base C W (F ++ (G ++ [⟨kd, n, i, s⟩])) w' := by
  have := c_tell i s kd n lb nb ob base C (F ++ G) W wr hs (hs.cell h.nl h.kind) (hs.cell h.nn h.rule) (by have := h.few; rw [List.length_append]; omega)
  rw [List.append_assoc] at this
  exact this
theorem LookIn.keepExt {w0 W wr : World} {ob base lb nb n : Nat} {kd : Int} {F G : List Finding} {C : Nat → Prop} (h : LookIn w0 ob base lb nb kd n F C W) (hs : FS ob base C W G wr) : Ext w0 wr := hs.keepExt h.ext h.far
theorem LookIn.notC {w0 W : World} {ob base lb nb n : Nat} {kd : Int} {F : List Finding} {C : Nat → Prop} (h : LookIn w0 ob base lb nb kd n F C W) {b : Nat} (hb : W.heap.size ≤ b) : ¬ C b := fun hc => by have := (h.fj.low hc).2; omega
/-- What is told of a list, place by place. -/
abbrev Tell := Nat × ByteArray
def mkF (kd : Int) (n : Nat) (t : Tell) : Finding := ⟨kd, n, t.1, t.2⟩
def tellO (o : Option Nat) : List Tell := match o with | some i => [(i, ⟨#[]⟩)] | none => []
def tellG {α : Type} (g : Nat → α → List Tell) : Nat → List α → List Tell
  | _, [] => []
  | i, x :: l => g i x ++ tellG g (i + 1) l
theorem tellG_append {α : Type} (g : Nat → α → List Tell) : ∀ (i : Nat) (l m : List α), tellG g i (l ++ m) = tellG g i l ++ tellG g (i + l.length) m
  | i, [], m => by simp [tellG]
  | i, x :: l, m => by
    show g i x ++ tellG g (i + 1) (l ++ m) = (g i x ++ tellG g (i + 1) l) ++ _
    rw [tellG_append g (i + 1) l m, List.append_assoc]
    congr 3
    simp
    omega
theorem tellG_take {α : Type} (g : Nat → α → List Tell) {l : List α} {k : Nat} {x : α} (h : l[k]? = some x) : tellG g 0 (l.take (k + 1)) = tellG g 0 (l.take k) ++ g k x := by
  have hk := (List.getElem?_eq_some_iff.1 h).1
  rw [take_at h, tellG_append, List.length_take, Nat.min_eq_left (by omega), Nat.zero_add]
  simp [tellG]
theorem tellG_len {α : Type} (g : Nat → α → List Tell) (c : Nat) (hg : ∀ i x, (g i x).length ≤ c) : ∀ (i : Nat) (l : List α), (tellG g i l).length ≤ l.length * c
  | i, [] => by simp [tellG]
  | i, x :: l => by
    have h1 := tellG_len g c hg (i + 1) l
    have h2 := hg i x
    show (g i x ++ tellG g (i + 1) l).length ≤ _
    rw [List.length_append, List.length_cons, Nat.succ_mul]
    omega
end Go.Proofs.YtlalgaioiapjmaaGreatDoor
namespace Go.Proofs.YtlalgaioiapjmaaGreatDoor
open Go.ChangeShapes Go.WideShapes Go.ChangeAt Go.RowKit
open K (Rule Term Atom TermsAt LitsAt)
def posAt (l x : K.Lit) : Bool := decide (x.kind = 1) && decide (x.atom = l.atom)
/-- Can a literal of a body not hold beside the others? -/
def neverB (r : Rule) (l : K.Lit) : Bool :=
  if l.kind = 3 then (sureS l).1 && !(sureS l).2 else if l.kind = 2 then !(l.atom.terms.any blankT) && r.body.any (posAt l) else false
set_option maxRecDepth 100000 in
set_option maxHeartbeats 4000000 in
theorem c_never (r : Rule) (ah : Option Addr) (nh ch : Nat) (ab : Option Addr) (nb cb : Nat) (l : K.Lit) (a : Option Addr) (n c : Nat) (w : World) (hb : LitsAt w ab nb r.body) (ht : TermsAt w a n l.atom.terms) (hop : 0 ≤ l.op ∧ l.op ≤ 4) :
    Calls Tryz.prog 32 #[.agg #[.string r.head.pred, .slice ah nh ch, .slice ab nb cb], .agg #[.int .i64 l.kind, .string l.atom.pred, .slice a n c, .int .i64 l.op, .int .i64 l.left.kind, .string l.left.text, .int .i64 l.right.kind, .string l.right.text]] w fun e w' => e = .returned (.bool (neverB r l)) ∧ Ext w w' := by
  obtain ⟨s1, hs1⟩ : ∃ b, (sureS l).1 = b := ⟨_, rfl⟩
  obtain ⟨s2, hs2⟩ : ∃ b, (sureS l).2 = b := ⟨_, rfl⟩
  obtain ⟨q1, hq1⟩ : ∃ b, l.atom.terms.any blankT = b := ⟨_, rfl⟩
  obtain ⟨q2, hq2⟩ : ∃ b, r.body.any (posAt l) = b := ⟨_, rfl⟩
  obtain ⟨b1, e1⟩ : ∃ b, (l.kind == 3) = b := ⟨_, rfl⟩
  obtain ⟨b2, e2⟩ : ∃ b, (l.kind == 2) = b := ⟨_, rfl⟩
  have RES : Hid (neverB r l = if b1 = true then s1 && !s2 else if b2 = true then !q1 && q2 else false) := by
    show _ = _
    unfold neverB
    rw [hs1, hs2, hq1, hq2, ← e1, ← e2]
    simp only [beq_iff_eq]
  have SU : Hid (∀ W, Calls Tryz.prog 34 #[.agg #[.int .i64 l.kind, .string l.atom.pred, .slice a n c, .int .i64 l.op, .int .i64 l.left.kind, .string l.left.text, .int .i64 l.right.kind, .string l.right.text]] W fun e w' => e = .returned (.tuple #[.bool s1, .bool s2]) ∧ Ext W w') := fun W => by
    rw [← hs1, ← hs2]
    exact c_sure l a n c W hop
  have BL : Hid (∀ W, Ext w W → Calls Tryz.prog 67 #[.slice a n c, .func (.func 68) #[] #[]] W fun e w' => e = .returned (.bool q1) ∧ Ext W w') := fun W e => by
    rw [← hq1]
    exact c_ContainsBlank l.atom.terms a n c W (ht.keep e)
  have CO : Hid (∀ W lb, Ext w W → W.cell? ⟨lb, 1, none⟩ = some (.string l.atom.pred) → W.cell? ⟨lb, 2, none⟩ = some (.slice a n c) → Calls Tryz.prog 37 #[.slice ab nb cb, .func (.func 69) #[] #[.pointer (some ⟨lb, 0, none⟩)]] W fun e w' => e = .returned (.bool q2) ∧ Ext W w') := fun W lb e y1 y2 => by
    rw [← hq2]
    exact c_CoNev (posAt l) r.body ab nb cb lb W (hb.keep e) (fun x _ ta tn tc W' e' ht' => c_never1 x l ta a tn n tc c lb W' ht' (ht.keep (ext_trans e e')) (keep e' y1) (keep e' y2))
  clear hs1 hs2 hq1 hq2 hb ht hop
  go_enter Tryz.func32, Tryz.ntmps32
  go_upto_region 1 with (fail)
  refine wp_gen (fun W hW => ?_)
  have E0 : Ext w W := by rw [hW]; exact ext_alloc (ext_alloc (Below.refl _ _) _) _
  have B0 : Blk W w.heap.size 50 [.string r.head.pred, .slice ah nh ch, .slice ab nb cb] := by
    rw [hW]
    exact (Blk.new w [.string r.head.pred, .slice ah nh ch, .slice ab nb cb] 50).ext (ext_alloc (Below.refl _ _) _)
  have B1 : Blk W (w.heap.size + 1) 47 [.int .i64 l.kind, .string l.atom.pred, .slice a n c, .int .i64 l.op, .int .i64 l.left.kind, .string l.left.text, .int .i64 l.right.kind, .string l.right.text] := by
    rw [hW]
    have := Blk.new (w.alloc (.cells #[.string r.head.pred, .slice ah nh ch, .slice ab nb cb] 50)) [.int .i64 l.kind, .string l.atom.pred, .slice a n c, .int .i64 l.op, .int .i64 l.left.kind, .string l.left.text, .int .i64 l.right.kind, .string l.right.text] 47
    rw [World.size_alloc] at this
    exact this
  have x2 := B0.cell (i := 2) rfl
  have y0 := B1.cell (i := 0) rfl
  have y1 := B1.cell (i := 1) rfl
  have y2 := B1.cell (i := 2) rfl
  have y3 := B1.cell (i := 3) rfl
  have y4 := B1.cell (i := 4) rfl
  have y5 := B1.cell (i := 5) rfl
  have y6 := B1.cell (i := 6) rfl
  have y7 := B1.cell (i := 7) rfl
  have HE := Lib.hid E0
  obtain ⟨rb, hrb⟩ : ∃ rb, w.heap.size = rb := ⟨_, rfl⟩
  rw [hrb] at x2 y0 y1 y2 y3 y4 y5 y6 y7 ⊢
  clear hW B0 B1 E0 hrb
  cases b1 with
  | true =>
    cases s1
    all_goals
      go_wp2_with (go_at_call 34; (with_reducible refine (SU.out _).mono ?_); rintro e w2 ⟨rfl, hE⟩)
      go_returns
      exact ⟨by rw [RES.out]; rfl, ext_trans HE.out hE⟩
  | false =>
    cases b2 with
    | false =>
      go_wp2
      go_returns
      exact ⟨by rw [RES.out]; rfl, HE.out⟩
    | true =>
      cases q1
      all_goals
        go_wp2_with (first | (go_at_call 67; (with_reducible refine (BL.out _ HE.out).mono ?_); rintro e w2 ⟨rfl, hE⟩; have x2 := keep hE x2; have y1 := keep hE y1; have y2 := keep hE y2) | (go_at_call 37; (with_reducible refine (CO.out _ _ (ext_trans HE.out hE) y1 y2).mono ?_); rintro e w3 ⟨rfl, hE3⟩) | fail)
        go_returns
        first
          | exact ⟨by rw [RES.out]; rfl, ext_trans HE.out (ext_trans hE hE3)⟩
          | exact ⟨by rw [RES.out]; rfl, ext_trans HE.out hE⟩
end Go.Proofs.YtlalgaioiapjmaaGreatDoor
namespace Go.Proofs.YtlalgaioiapjmaaGreatDoor
open Go.ChangeShapes Go.WideShapes Go.ChangeAt Go.RowKit
open K (Rule Term Atom TermsAt LitsAt RuleV Finding)
theorem op_ok {r : Rule} (h : K.mayRule r = 0) : ∀ l ∈ r.body, 0 ≤ l.op ∧ l.op ≤ 4 := fun l hl => by
  have h1 : K.mayLits r.body = 0 := by
    unfold K.mayRule at h
    split at h
    · rename_i hn; exact absurd h hn
    · split at h
      · cases h
      · exact h
  have h2 := mayLits_mem h1 l hl
  unfold K.mayLit at h2
  split at h2
  · rename_i hc
    have := hc.2.1
    omega
  · split at h2
    · cases h2
    · rename_i hc
      simp only [not_or] at hc
      omega
def look1 (r : Rule) : List Tell := tellO (r.body.findIdx? (neverB r))
set_option maxRecDepth 100000 in
set_option maxHeartbeats 4000000 in
theorem c_bo1 (r : Rule) (ah : Option Addr) (nh ch : Nat) (ab : Option Addr) (nb cb : Nat) (l : K.Lit) (a : Option Addr) (n c rb : Nat) (w : World) (hb : LitsAt w ab nb r.body) (ht : TermsAt w a n l.atom.terms) (hop : 0 ≤ l.op ∧ l.op ≤ 4) (y0 : w.cell? ⟨rb, 0, none⟩ = some (.string r.head.pred)) (y1 : w.cell? ⟨rb, 1, none⟩ = some (.slice ah nh ch)) (y2 : w.cell? ⟨rb, 2, none⟩ = some (.slice ab nb cb)) :
    Calls Tryz.prog 31 #[.agg #[.int .i64 l.kind, .string l.atom.pred, .slice a n c, .int .i64 l.op, .int .i64 l.left.kind, .string l.left.text, .int .i64 l.right.kind, .string l.right.text], .pointer (some ⟨rb, 0, none⟩)] w fun e w' => e = .returned (.bool (neverB r l)) ∧ Ext w w' := by
  have EE : ∀ o : Obj, Ext w (w.alloc o) := fun o => ext_alloc (Below.refl _ _) _
  have NV : Hid (∀ o, Calls Tryz.prog 32 #[.agg #[.string r.head.pred, .slice ah nh ch, .slice ab nb cb], .agg #[.int .i64 l.kind, .string l.atom.pred, .slice a n c, .int .i64 l.op, .int .i64 l.left.kind, .string l.left.text, .int .i64 l.right.kind, .string l.right.text]] (w.alloc o) fun e w' => e = .returned (.bool (neverB r l)) ∧ Ext (w.alloc o) w') := fun o => c_never r ah nh ch ab nb cb l a n c _ (hb.keep (EE o)) (ht.keep (EE o)) hop
  have y0 := fun o => keep (EE o) y0
  have y1 := fun o => keep (EE o) y1
  have y2 := fun o => keep (EE o) y2
  clear hb ht hop
  go_enter Tryz.func31, Tryz.ntmps31
  go_wp2_with (go_at_call 32; (with_reducible refine (NV.out _).mono ?_); rintro e w2 ⟨rfl, hE⟩)
  go_returns
  exact ⟨rfl, ext_after hE (EE _)⟩
/-- The box of a look's rule. -/
theorem box_rule (W : World) (x y z : Value) : Ext W (W.alloc (.cells #[x, y, z] 50)) ∧ (W.alloc (.cells #[x, y, z] 50)).cell? ⟨W.heap.size, 0, none⟩ = some x ∧ (W.alloc (.cells #[x, y, z] 50)).cell? ⟨W.heap.size, 1, none⟩ = some y ∧ (W.alloc (.cells #[x, y, z] 50)).cell? ⟨W.heap.size, 2, none⟩ = some z := by
  have B := Blk.new W [x, y, z] 50
  exact ⟨ext_alloc (Below.refl _ _) _, B.cell (i := 0) rfl, B.cell (i := 1) rfl, B.cell (i := 2) rfl⟩
set_option maxRecDepth 100000 in
set_option maxHeartbeats 4000000 in
theorem c_look1 {w0 W : World} {ob base lb nb : Nat} {kd : Int} {n : Nat} {F : List Finding} {C : Nat → Prop} (h : LookIn w0 ob base lb nb kd n F C W) (r : Rule) (ah : Option Addr) (nh ch : Nat) (ab : Option Addr) (bn cb : Nat) (hr : RuleV w0 r ah nh ch ab bn cb) (ok : K.mayRule r = 0) :
    Calls Tryz.prog 29 #[.int .i64 (n : Nat), .agg #[.string r.head.pred, .slice ah nh ch, .slice ab bn cb], .func (.func 18) #[] #[.pointer (some ⟨ob, 0, none⟩), .pointer (some ⟨lb, 0, none⟩), .pointer (some ⟨nb, 0, none⟩)]] W (LookPost ob base C W F ((look1 r).map (mkF kd n))) := by
  have H := Lib.hid h
  have HR := Lib.hid hr
  have OK := Lib.hid ok
  clear h hr ok
  go_enter Tryz.func29, Tryz.ntmps29
  go_upto_region 1 with (fail)
  refine wp_gen (fun W1 hW => ?_)
  obtain ⟨E0, x0, x1, x2⟩ : Ext W W1 ∧ W1.cell? ⟨W.heap.size, 0, none⟩ = some (.string r.head.pred) ∧ W1.cell? ⟨W.heap.size, 1, none⟩ = some (.slice ah nh ch) ∧ W1.cell? ⟨W.heap.size, 2, none⟩ = some (.slice ab bn cb) := by rw [hW]; exact box_rule _ _ _ _
  have H1 := Lib.hid (H.out.up E0)
  have HE := Lib.hid E0
  obtain ⟨rb, hrb⟩ : ∃ rb, W.heap.size = rb := ⟨_, rfl⟩
  rw [hrb] at x0 x1 x2 ⊢
  have hbb : LitsAt W1 ab bn r.body := HR.out.body.keep H1.out.ext
  have CI := Lib.hid (c_IxBo1 (neverB r) r.body ab bn cb rb W1 hbb (fun l hl ta tn tc W' e ht => c_bo1 r ah nh ch ab bn cb l ta tn tc rb W' (hbb.keep e) ht (op_ok OK.out l hl) (keep e x0) (keep e x1) (keep e x2)))
  have LK : Hid (look1 r = tellO (r.body.findIdx? (neverB r))) := (rfl : _ = _)
  clear hW E0 hrb hbb
  cases hf : r.body.findIdx? (neverB r) with
  | none =>
    rw [hf] at CI LK
    have CI : Hid (Calls Tryz.prog 30 #[.slice ab bn cb, .func (.func 31) #[] #[.pointer (some ⟨rb, 0, none⟩)]] W1 fun e w' => e = .returned (.int .i64 (-1)) ∧ Ext W1 w') := CI
    clear hf
    go_wp2_with (go_at_call 30; (with_reducible refine CI.out.mono ?_); rintro e w2 ⟨rfl, hE⟩)
    go_end0
    rw [LK.out]
    exact LookPost.mk HE.out (by simpa [tellO] using (FS.start H1.out.fj).up hE)
  | some i =>
    rw [hf] at CI LK
    have CI : Hid (Calls Tryz.prog 30 #[.slice ab bn cb, .func (.func 31) #[] #[.pointer (some ⟨rb, 0, none⟩)]] W1 fun e w' => e = .returned (.int .i64 (i : Int)) ∧ Ext W1 w') := CI
    have hi : (0 : Int) ≤ (i : Int) := Int.natCast_nonneg i
    clear hf
    go_wp2_with (first | (go_at_call 30; (with_reducible refine CI.out.mono ?_); rintro e w2 ⟨rfl, hE⟩; have S2 := Lib.hid ((FS.start H1.out.fj).up hE); clear hE) | (go_at_call 18; (with_reducible refine (H1.out.tell (G := []) (by rw [List.append_nil]; exact S2.out) (by simp) i ⟨#[]⟩).mono ?_); rintro e w3 ⟨rfl, S3⟩) | fail)
    go_end0
    rw [LK.out]
    exact LookPost.mk HE.out S3
def alwaysB (q : Bool) (l : K.Lit) : Bool := !q && (decide (l.kind = 3) && ((sureS l).1 && (sureS l).2))
def look2 (r : Rule) : List Tell := tellG (fun i l => if alwaysB (r.head.terms.any aggT) l = true then [(i, ⟨#[]⟩)] else []) 0 r.body
set_option maxRecDepth 100000 in
set_option maxHeartbeats 4000000 in
theorem c_look2 {w0 W : World} {ob base lb nb : Nat} {kd : Int} {n : Nat} {F : List Finding} {C : Nat → Prop} (h : LookIn w0 ob base lb nb kd n F C W) (r : Rule) (ah : Option Addr) (nh ch : Nat) (ab : Option Addr) (bn cb : Nat) (hr : RuleV w0 r ah nh ch ab bn cb) (ok : K.mayRule r = 0) (hfew : bn ≤ 64) :
    Calls Tryz.prog 33 #[.int .i64 (n : Nat), .agg #[.string r.head.pred, .slice ah nh ch, .slice ab bn cb], .func (.func 18) #[] #[.pointer (some ⟨ob, 0, none⟩), .pointer (some ⟨lb, 0, none⟩), .pointer (some ⟨nb, 0, none⟩)]] W (LookPost ob base C W F ((look2 r).map (mkF kd n))) := by
  have H := Lib.hid h
  have HR := Lib.hid hr
  have OK := Lib.hid ok
  have HL := Lib.hid hr.body.2.1
  obtain ⟨q, hq⟩ : ∃ q, r.head.terms.any aggT = q := ⟨_, rfl⟩
  obtain ⟨g, hg⟩ : ∃ g : Nat → K.Lit → List Tell, (fun i l => if alwaysB q l = true then [(i, (⟨#[]⟩ : ByteArray))] else []) = g := ⟨_, rfl⟩
  have LK : Hid (look2 r = tellG g 0 r.body) := by
    show _ = _
    rw [← hg, ← hq]
    rfl
  have GL : Hid (∀ k, (tellG g 0 (r.body.take k)).length ≤ 100000) := fun k => by
    have h1 := tellG_len g 1 (fun i l => by rw [← hg]; dsimp only; split <;> simp) 0 (r.body.take k)
    have h2 := List.length_take_le k r.body
    have h3 := HL.out
    have h4 := List.length_take_le' k r.body
    omega
  have AG : Hid (∀ W', Ext w0 W' → Calls Tryz.prog 35 #[.agg #[.string r.head.pred, .slice ah nh ch, .slice ab bn cb]] W' fun e w' => e = .returned (.bool q) ∧ Ext W' w') := fun W' e => by
    rw [← hq]
    exact c_aggregateL r.head.pred r.head.terms ah nh ch _ W' (hr.terms.keep e) ⟨_, _, _, rfl⟩
  clear h hr ok
  go_enter Tryz.func33, Tryz.ntmps33
  go_upto_region 1 with (fail)
  refine wp_gen (fun W1 hW => ?_)
  obtain ⟨E0, x0, x1, x2⟩ : Ext W W1 ∧ W1.cell? ⟨W.heap.size, 0, none⟩ = some (.string r.head.pred) ∧ W1.cell? ⟨W.heap.size, 1, none⟩ = some (.slice ah nh ch) ∧ W1.cell? ⟨W.heap.size, 2, none⟩ = some (.slice ab bn cb) := by rw [hW]; exact box_rule _ _ _ _
  have H1 := Lib.hid (H.out.up E0)
  have HE := Lib.hid E0
  have NC : ¬ C W.heap.size := H.out.notC (Nat.le_refl _)
  obtain ⟨rb, hrb⟩ : ∃ rb, W.heap.size = rb := ⟨_, rfl⟩
  rw [hrb] at x0 x1 x2 NC ⊢
  clear hW E0 hrb hq
  go_wp2
  go_loopw [13] (fun v wr => ∃ k : Nat, k ≤ bn ∧ v = .int .i64 (k : Int) ∧ FS ob base C W1 (F ++ (tellG g 0 (r.body.take k)).map (mkF kd n)) wr) (fun v _ => bn - (intOf v).toNat)
  case atStart => exact ⟨0, Nat.zero_le _, rfl, by simpa [tellG] using FS.start H1.out.fj⟩
  case round =>
    obtain ⟨k, hk, rfl, hs⟩ := hrel
    have HS := Lib.hid hs
    by_cases hlt : ¬ k < bn
    · have hki : ¬ (k : Int) < (bn : Int) := by omega
      clear hs
      go_wp2
      go_end0
      rw [LK.out]
      have := HS.out
      rw [List.take_of_length_le (by have := HL.out; omega)] at this
      exact LookPost.mk HE.out this
    · have hlt : k < bn := by omega
      have hki : (k : Int) < (bn : Int) := by omega
      have E0r := H1.out.keepExt hs
      have y0 := hs.cell NC x0
      have y1 := hs.cell NC x1
      have y2 := hs.cell NC x2
      obtain ⟨l, b, off, ta, tn, tc, hlk, rfl, z0, z1, z2, z3, z4, z5, z6, z7, ht, _⟩ := lit_cells (HR.out.body.keep E0r) hlt
      have TK : Hid (tellG g 0 (r.body.take (k + 1)) = tellG g 0 (r.body.take k) ++ g k l) := tellG_take g hlk
      obtain ⟨s1, hs1⟩ : ∃ b, (sureS l).1 = b := ⟨_, rfl⟩
      obtain ⟨s2, hs2⟩ : ∃ b, (sureS l).2 = b := ⟨_, rfl⟩
      obtain ⟨b1, e1⟩ : ∃ b, (l.kind == 3) = b := ⟨_, rfl⟩
      have GK : Hid (g k l = if (!q && (b1 && (s1 && s2))) = true then [(k, ⟨#[]⟩)] else []) := by
        show _ = _
        rw [← hg, ← hs1, ← hs2, ← e1]
        dsimp only [alwaysB]
        rw [Bool.beq_eq_decide_eq]
        rfl
      have SU : Hid (∀ W', Calls Tryz.prog 34 #[.agg #[.int .i64 l.kind, .string l.atom.pred, .slice ta tn tc, .int .i64 l.op, .int .i64 l.left.kind, .string l.left.text, .int .i64 l.right.kind, .string l.right.text]] W' fun e w' => e = .returned (.tuple #[.bool s1, .bool s2]) ∧ Ext W' w') := fun W' => by
        rw [← hs1, ← hs2]
        exact c_sure l ta tn tc W' (op_ok OK.out l (List.mem_of_getElem? hlk))
      have EE : ∀ o : Obj, Ext wr (wr.alloc o) := fun o => ext_alloc (Below.refl _ _) _
      have HE0 := Lib.hid E0r
      have HLT := Lib.hid hlt
      clear hs hs1 hs2 hlk ht E0r
      go_upto_region 4 with (fail)
      refine wp_gen (fun W4 hW4 => ?_)
      have E4 : Ext wr W4 := by rw [hW4]; exact EE _
      have B4 : Blk W4 wr.heap.size 47 [.int .i64 l.kind, .string l.atom.pred, .slice ta tn tc, .int .i64 l.op, .int .i64 l.left.kind, .string l.left.text, .int .i64 l.right.kind, .string l.right.text] := by
        rw [hW4]
        exact Blk.new wr [.int .i64 l.kind, .string l.atom.pred, .slice ta tn tc, .int .i64 l.op, .int .i64 l.left.kind, .string l.left.text, .int .i64 l.right.kind, .string l.right.text] 47
      have u0 := B4.cell (i := 0) rfl
      have u1 := B4.cell (i := 1) rfl
      have u2 := B4.cell (i := 2) rfl
      have u3 := B4.cell (i := 3) rfl
      have u4 := B4.cell (i := 4) rfl
      have u5 := B4.cell (i := 5) rfl
      have u6 := B4.cell (i := 6) rfl
      have u7 := B4.cell (i := 7) rfl
      have y0 := keep E4 y0
      have y1 := keep E4 y1
      have y2 := keep E4 y2
      have HE4 := Lib.hid E4
      clear hW4 E4 B4 EE z0 z1 z2 z3 z4 z5 z6 z7
      go_upto_region 5 with (go_at_call 34; (with_reducible refine (SU.out _).mono ?_); rintro e w5 ⟨rfl, hE5⟩; have y0 := keep hE5 y0; have y1 := keep hE5 y1; have y2 := keep hE5 y2; have u0 := keep hE5 u0; have HE5 := Lib.hid hE5; clear hE5)
      have AGW := Lib.hid (AG.out w5 (ext_trans HE0.out (ext_trans HE4.out HE5.out)))
      have FIN0 : Hid ((!q && (b1 && (s1 && s2))) = false → ∀ w6, Ext w5 w6 → FS ob base C W1 (F ++ (tellG g 0 (r.body.take (k + 1))).map (mkF kd n)) w6) := fun hf w6 e6 => by
        rw [TK.out, GK.out, hf]
        simpa using HS.out.up (ext_trans HE4.out (ext_trans HE5.out e6))
      have FIN1 : Hid ((!q && (b1 && (s1 && s2))) = true → ∀ w6, FS ob base C W1 (F ++ ((tellG g 0 (r.body.take k)).map (mkF kd n) ++ [⟨kd, n, k, ⟨#[]⟩⟩])) w6 → FS ob base C W1 (F ++ (tellG g 0 (r.body.take (k + 1))).map (mkF kd n)) w6) := fun hf w6 h6 => by
        rw [TK.out, GK.out, hf]
        simpa [mkF] using h6
      have TELL : Hid (∀ w6, Ext w5 w6 → Calls Tryz.prog 18 #[.int .i64 (k : Nat), .string ⟨#[]⟩, .pointer (some ⟨ob, 0, none⟩), .pointer (some ⟨lb, 0, none⟩), .pointer (some ⟨nb, 0, none⟩)] w6 fun e w' => e = .returned (.tuple #[]) ∧ FS ob base C W1 (F ++ ((tellG g 0 (r.body.take k)).map (mkF kd n) ++ [⟨kd, n, k, ⟨#[]⟩⟩])) w') := fun w6 e6 => H1.out.tell (HS.out.up (ext_trans HE4.out (ext_trans HE5.out e6))) (by rw [List.length_map]; exact GL.out k) k ⟨#[]⟩
      clear AG SU HS HE4 HE5 TK GK HE0 hg
      cases q with
      | true =>
        go_wp2_with (go_at_call 35; (with_reducible refine AGW.out.mono ?_); rintro e w6 ⟨rfl, E6⟩)
        go_roundw
        case rel => exact ⟨k + 1, HLT.out, by go_num, FIN0.out rfl _ E6⟩
        case measure => have := HLT.out; simp [intOf]; omega
      | false =>
        cases b1 with
        | false =>
          go_wp2_with (go_at_call 35; (with_reducible refine AGW.out.mono ?_); rintro e w6 ⟨rfl, E6⟩; have u0 := keep E6 u0)
          go_roundw
          case rel => exact ⟨k + 1, HLT.out, by go_num, FIN0.out rfl _ E6⟩
          case measure => have := HLT.out; simp [intOf]; omega
        | true =>
          cases s1 with
          | false =>
            go_wp2_with (go_at_call 35; (with_reducible refine AGW.out.mono ?_); rintro e w6 ⟨rfl, E6⟩; have u0 := keep E6 u0)
            go_roundw
            case rel => exact ⟨k + 1, HLT.out, by go_num, FIN0.out rfl _ E6⟩
            case measure => have := HLT.out; simp [intOf]; omega
          | true =>
            cases s2 with
            | false =>
              go_wp2_with (go_at_call 35; (with_reducible refine AGW.out.mono ?_); rintro e w6 ⟨rfl, E6⟩; have u0 := keep E6 u0)
              go_roundw
              case rel => exact ⟨k + 1, HLT.out, by go_num, FIN0.out rfl _ E6⟩
              case measure => have := HLT.out; simp [intOf]; omega
            | true =>
              go_wp2_with (first | (go_at_call 35; (with_reducible refine AGW.out.mono ?_); rintro e w6 ⟨rfl, E6⟩; have u0 := keep E6 u0) | (go_at_call 18; (with_reducible refine (TELL.out _ E6).mono ?_); rintro e w7 ⟨rfl, S7⟩; have HS7 := Lib.hid S7; clear S7) | fail)
              go_roundw
              case rel => exact ⟨k + 1, HLT.out, by go_num, FIN1.out rfl _ HS7.out⟩
              case measure => have := HLT.out; simp [intOf]; omega
end Go.Proofs.YtlalgaioiapjmaaGreatDoor
