/- A cursor's Key again: it only draws. A cursor by its levels: each call by what may be met at the open levels. The join, a plain law: which rows of constants a search by tries comes to. The search of a join as it lies in memory: the row, the cursors, what takes the rows; each call of a cursor in it. Leaping, a plain law: cursors at one variable meet just the constants that all of them have. The calls of a search's cursors. -/
import Derived.Test.YtpgbenijjodoeaaGreatG26
namespace Go.Proofs.YtpgbenijjodoeaaGreat
open Go.ChangeShapes Go.WideShapes Go.ChangeAt Go.RowKit
set_option maxRecDepth 100000 in
theorem c_keyQ (pc pt lo g d : Nat) (ways : List (List ByteArray)) (pre : List (Nat × Nat)) (f t A B : Nat) (w : World) (h : CurV w lo pc pt (some g) (pre ++ [(f, t)])) (ht : TrieV w pt d ways) (hf : CurFacts d ways pre f t A B) (hft : f < t) :
    Calls Tryz.prog 125 #[.pointer (some ⟨pc, 0, none⟩)] w fun e w' => e = .returned (.string (keyAt ways pre.length (st ways pre.length f))) ∧ ∃ q, w' = w.drewN q := by
  have L := Lib.hid (c_last pc pt lo g pre f t w h)
  have H := Lib.hid h
  obtain ⟨g', c, e, y0, y1, _, hc, z0, z1, z2, hcm⟩ := h.last
  cases e
  have AE : Hid (∀ w1, (∃ q, w1 = w.drewN q) → Calls Tryz.prog 119 #[.pointer (some ⟨pc, 0, none⟩)] w1 fun e w' => e = .returned (.bool false) ∧ ∃ q, w' = w.drewN q) := fun w1 ⟨q1, hq1⟩ => by
    subst hq1
    have A := c_atEnd pc pt lo (some g) (pre ++ [(f, t)]) _ (H.out.ext (ext_drewN (Below.refl _ _) q1))
    rw [endB_snoc, show decide (f = t) = false by simp; omega] at A
    exact A.mono fun e w' ⟨r1, q, r2⟩ => ⟨r1, q1 + q, by rw [r2, World.drewN_drewN]⟩
  obtain ⟨gl, kb, ko, kc, t0, t1, t2, hfN⟩ := ht.reads hf hft
  have hdep := hf.dep
  obtain ⟨x, hx⟩ : ∃ x, keyAt ways pre.length (st ways pre.length f) = x := ⟨_, rfl⟩
  rw [hx] at t2 ⊢
  obtain ⟨M, hM⟩ : ∃ M, wid ways pre.length ways.length = M := ⟨_, rfl⟩
  rw [hM] at t1 hfN
  obtain ⟨k, hk⟩ : ∃ k, pre.length = k := ⟨_, rfl⟩
  rw [hk] at L y1 z0 z1 z2 hc t1 hdep
  have hcm2 : c ≤ 9223372036854775807 := hcm
  have r1 : IntKind.i64.wrap (k : Int) = (k : Int) := by rw [IntKind.wrap_i64]; omega
  have r2 : (k : Int) < (d : Int) := by omega
  have r3 : (f : Int) < (M : Int) := by omega
  clear h hft hx hf hk ht hcm hM
  go_enter Tryz.func125, Tryz.ntmps125
  go_upto_region 4 with (first
    | (go_at_call 123; (with_reducible refine L.out.mono ?_); rintro e w1 ⟨rfl, hw1⟩; have Q1 := Lib.hid hw1; clear hw1)
    | (go_at_call 119; (with_reducible refine (AE.out _ Q1.out).mono ?_); rintro e w2 ⟨rfl, hw2⟩; have Q2 := Lib.hid hw2; clear hw2))
  have E2 : Ext w w2 := by obtain ⟨q, hq⟩ := Q2.out; rw [hq]; exact ext_drewN (Below.refl _ _) q
  have k0 := keep E2 z0
  have k3 := keep E2 y0
  have k4 := keep E2 y1
  have k5 := keep E2 t0
  have k6 := keep E2 t1
  have k7 := keep E2 t2
  go_quiet (fail)
  go_wp2
  go_returns
  exact ⟨rfl, by obtain ⟨q, hq⟩ := Q2.out; exact ⟨_, by rw [hq, World.drewN_drewN]⟩⟩
end Go.Proofs.YtpgbenijjodoeaaGreat
namespace Go.Proofs.YtpgbenijjodoeaaGreat
open Go.ChangeShapes Go.WideShapes Go.ChangeAt Go.RowKit
/-- The cursor at block pc: its levels, its blocks. -/
def KurV (w : World) (lo pc pt d : Nat) (ways : List (List ByteArray)) (S : Nat → Prop) (ls : List RLv) : Prop := ∃ rb sp, CurV w lo pc pt rb sp ∧ CurOk d ways sp ∧ lsOf ways sp = ls ∧ S = CurB pc rb
theorem KurV.buts {w w' : World} {lo pc pt d : Nat} {ways : List (List ByteArray)} {S T : Nat → Prop} {ls : List RLv} (h : KurV w lo pc pt d ways S ls) (e : ButS T w w') (hs : ∀ b, S b → ¬ T b) : KurV w' lo pc pt d ways S ls := by
  obtain ⟨rb, sp, h1, h2, h3, rfl⟩ := h
  exact ⟨rb, sp, h1.buts e hs, h2, h3, rfl⟩
theorem KurV.ext {w w' : World} {lo pc pt d : Nat} {ways : List (List ByteArray)} {S : Nat → Prop} {ls : List RLv} (h : KurV w lo pc pt d ways S ls) (e : Ext w w') : KurV w' lo pc pt d ways S ls := by
  obtain ⟨rb, sp, h1, h2, h3, h4⟩ := h
  exact ⟨rb, sp, h1.ext e, h2, h3, h4⟩
/-- What a call leaves: the cursor at other levels; its new blocks are new. -/
def KurP (lo pc pt d : Nat) (ways : List (List ByteArray)) (S : Nat → Prop) (ls : List RLv) (w w' : World) : Prop := ∃ S', KurV w' lo pc pt d ways S' ls ∧ ButS S w w' ∧ ∀ b, S' b → S b ∨ w.heap.size ≤ b
theorem KurP.of_step {lo pc pt d : Nat} {ways : List (List ByteArray)} {rb : Option Nat} {sp : List (Nat × Nat)} {b : Bool} {w w' : World} {e : Ending} (h : StepPost lo pc pt rb sp b w e w') (hc : CurOk d ways sp) : e = .returned (.bool b) ∧ KurP lo pc pt d ways (CurB pc rb) (lsOf ways sp) w w' := by
  obtain ⟨rb', h1, h2, h3, h4⟩ := h
  refine ⟨h1, CurB pc rb', ⟨rb', sp, h2, hc, rfl, rfl⟩, h3, fun x hx => ?_⟩
  rcases hx with rfl | hx
  · exact .inl (.inl rfl)
  · rcases h4 x hx with h | h
    · exact .inl (.inr h)
    · exact .inr h
section
variable {w : World} {lo pc pt d : Nat} {ways : List (List ByteArray)} {S : Nat → Prop} {ls : List RLv}
theorem KurV.shape (hw : Ways d ways) {l : List ByteArray} {k : Nat} (h : KurV w lo pc pt d ways S (ls ++ [(l, k)])) : ∃ rb pre f t, CurV w lo pc pt rb (pre ++ [(f, t)]) ∧ CurOk d ways (pre ++ [(f, t)]) ∧ lsOf ways pre = ls ∧ lvOf ways pre f = (l, k) ∧ S = CurB pc rb ∧ (f ≠ t ↔ k < l.length) ∧ k ≤ l.length := by
  obtain ⟨rb, sp, h1, h2, h3, h4⟩ := h
  rcases snoc_cases sp with rfl | ⟨pre, ⟨f, t⟩, rfl⟩
  · have := congrArg List.length h3
    simp [lsOf] at this
  · rw [lsOf_snoc] at h3
    obtain ⟨A, B, hs, F, e, hl, hge⟩ := (h2.lv hw).ok
    have h5 := (snoc_inj h3).2
    have hle := F.le
    rw [e] at h5
    cases h5
    exact ⟨rb, pre, f, t, h1, h2, (snoc_inj h3).1, e, h4, by rw [hl]; omega, by rw [hl]; omega⟩
theorem k_walk (h : TrieV w pt d ways) (hlo : lo ≤ w.heap.size) :
    Calls Tryz.prog 88 #[.pointer (some ⟨pt, 0, none⟩)] w fun e w' => e = .returned (.pointer (some ⟨w.heap.size, 0, none⟩)) ∧ KurV w' lo w.heap.size pt d ways (fun b => b = w.heap.size) [] ∧ Ext w w' :=
  (c_walk pt d ways lo w h hlo).mono fun e w' ⟨h1, h2, h3⟩ => ⟨h1, ⟨none, [], h2, .inl rfl, rfl, by funext b; simp [CurB]⟩, h3⟩
theorem k_up (h : KurV w lo pc pt d ways S ls) :
    Calls Tryz.prog 109 #[.pointer (some ⟨pc, 0, none⟩)] w fun e w' => (∃ b, e = .returned (.bool b)) ∧ KurP lo pc pt d ways S ls.dropLast w w' := by
  obtain ⟨rb, sp, h1, h2, rfl, rfl⟩ := h
  refine (s_up h1).mono fun e w' hp => ?_
  obtain ⟨e1, e2⟩ := KurP.of_step hp h2.upped
  rw [lsOf_up] at e2
  exact ⟨⟨_, e1⟩, e2⟩
theorem k_open (h : KurV w lo pc pt d ways S ls) (ht : TrieV w pt d ways) (hw : Ways d ways) (hd : d ≤ 64) (hn : ways.length ≤ 1000000) (hne : ways ≠ []) (he : rend ls = false) (hl : ls.length < d) :
    Calls Tryz.prog 107 #[.pointer (some ⟨pc, 0, none⟩)] w fun e w' => (∃ b, e = .returned (.bool b)) ∧ KurP lo pc pt d ways S (ls ++ [(folX d ways (rkeys ls), 0)]) w w' := by
  obtain ⟨rb, sp, h1, h2, rfl, rfl⟩ := h
  rw [rend_lsOf hw h2] at he
  rw [lsOf_len] at hl
  have hm : mayOpen d ways sp = true := by
    unfold mayOpen
    rw [he]
    have h0 : ways.length ≠ 0 := fun e => hne (List.eq_nil_of_length_eq_zero e)
    simp
    exact ⟨by omega, hne⟩
  refine (s_open h1 ht hw h2 hd hn).mono fun e w' hp => ?_
  obtain ⟨e1, e2⟩ := KurP.of_step hp (h2.opened hw)
  unfold openM at e2
  rw [if_pos hm, folX_open hw h2 hm, ← rkeys_lsOf hw _ sp rfl h2 he] at e2
  exact ⟨⟨_, e1⟩, e2⟩
theorem k_atEnd {l : List ByteArray} {k : Nat} (hw : Ways d ways) (h : KurV w lo pc pt d ways S (ls ++ [(l, k)])) :
    Calls Tryz.prog 119 #[.pointer (some ⟨pc, 0, none⟩)] w fun e w' => e = .returned (.bool (decide (k = l.length))) ∧ ∃ q, w' = w.drewN q := by
  obtain ⟨rb, sp, h1, h2, h3, rfl⟩ := h
  refine (c_atEnd pc pt lo rb sp w h1).mono fun e w' ⟨r1, r2⟩ => ⟨?_, r2⟩
  rw [r1, ← rend_lsOf hw h2, h3, rend_snoc]
theorem k_key {l : List ByteArray} {k : Nat} {x : ByteArray} (hw : Ways d ways) (h : KurV w lo pc pt d ways S (ls ++ [(l, k)])) (ht : TrieV w pt d ways) (hx : l[k]? = some x) :
    Calls Tryz.prog 125 #[.pointer (some ⟨pc, 0, none⟩)] w fun e w' => e = .returned (.string x) ∧ ∃ q, w' = w.drewN q := by
  obtain ⟨rb, pre, f, t, h1, h2, h3, h4, rfl, h5, _⟩ := h.shape hw
  have hkl := (List.getElem?_eq_some_iff.1 hx).1
  have hft := h5.2 hkl
  obtain ⟨A, B, hs, F, e, hl, hge⟩ := (h2.lv hw).ok
  obtain ⟨g, c, rfl, _⟩ := h1.last
  have hle := F.le
  refine (c_keyQ pc pt lo g d ways pre f t A B w h1 ht F (by omega)).mono fun e' w' ⟨r1, r2⟩ => ⟨?_, r2⟩
  have := lv_key F (by omega)
  rw [h4] at e
  cases e
  rw [hx] at this
  rw [r1]
  have this : x = _ := this
  rw [this]
theorem k_next {l : List ByteArray} {k : Nat} (hw : Ways d ways) (h : KurV w lo pc pt d ways S (ls ++ [(l, k)])) (hk : k < l.length) (hn : ways.length ≤ 1000000) :
    Calls Tryz.prog 127 #[.pointer (some ⟨pc, 0, none⟩)] w fun e w' => e = .returned (.bool (decide (k + 1 < l.length))) ∧ KurP lo pc pt d ways S (ls ++ [(l, k + 1)]) w w' := by
  obtain ⟨rb, pre, f, t, h1, h2, h3, h4, rfl, h5, _⟩ := h.shape hw
  obtain ⟨n1, n2⟩ := h2.next_lv hw (h5.2 hk)
  rw [h4, h3] at n1
  rw [h4] at n2
  refine (s_next h1 hw h2 hn).mono fun e w' hp => ?_
  obtain ⟨e1, e2⟩ := KurP.of_step hp (h2.nexted hw)
  rw [n1] at e2
  rw [n2] at e1
  exact ⟨e1, e2⟩
/-- Seek goes on to the first that is not less. -/
theorem k_seek {l : List ByteArray} {k : Nat} (x : ByteArray) (hw : Ways d ways) (h : KurV w lo pc pt d ways S (ls ++ [(l, k)])) (ht : TrieV w pt d ways) (hk : k < l.length) (hn : ways.length ≤ 1000000) :
    Calls Tryz.prog 126 #[.pointer (some ⟨pc, 0, none⟩), .string x] w fun e w' => ∃ j, k ≤ j ∧ j ≤ l.length ∧ (∀ i y, k ≤ i → i < j → l[i]? = some y → ltB y x = true) ∧ (∀ y, l[j]? = some y → ltB y x = false) ∧ e = .returned (.bool (decide (j < l.length))) ∧ KurP lo pc pt d ways S (ls ++ [(l, j)]) w w' := by
  obtain ⟨rb, pre, f, t, h1, h2, h3, h4, rfl, h5, _⟩ := h.shape hw
  obtain ⟨j, j1, j2, j3, j4, n1, n2⟩ := h2.seek_lv hw (h5.2 hk) x
  rw [h4] at j1 j2 j3 j4 n1 n2
  rw [h3] at n1
  refine (s_seek x h1 ht hw h2 hn).mono fun e w' hp => ?_
  obtain ⟨e1, e2⟩ := KurP.of_step hp (h2.seeked hw x)
  rw [n1] at e2
  rw [n2] at e1
  exact ⟨j, j1, j2, j3, j4, e1, e2⟩
theorem k_seek_end {l : List ByteArray} (x : ByteArray) (hw : Ways d ways) (h : KurV w lo pc pt d ways S (ls ++ [(l, l.length)])) (ht : TrieV w pt d ways) (hn : ways.length ≤ 1000000) :
    Calls Tryz.prog 126 #[.pointer (some ⟨pc, 0, none⟩), .string x] w fun e w' => e = .returned (.bool false) ∧ KurP lo pc pt d ways S (ls ++ [(l, l.length)]) w w' := by
  obtain ⟨rb, pre, f, t, h1, h2, h3, h4, rfl, h5, _⟩ := h.shape hw
  obtain rfl : f = t := Classical.not_not.1 fun hft => absurd (h5.1 hft) (Nat.lt_irrefl _)
  refine (s_seek x h1 ht hw h2 hn).mono fun e w' hp => ?_
  obtain ⟨e1, e2⟩ := KurP.of_step hp (h2.seeked hw x)
  rw [seekM_snoc, if_pos rfl, lsOf_snoc, h3, h4] at e2
  rw [seekB_snoc, if_pos rfl] at e1
  exact ⟨e1, e2⟩
end
end Go.Proofs.YtpgbenijjodoeaaGreat
namespace Go.Proofs.YtpgbenijjodoeaaGreat
/-- A table: the numbers of its variables, its rows. -/
structure JT where
  vars : List Nat
  rows : List (List ByteArray)
def gt (x : List ByteArray) (v : Nat) : ByteArray := x[v]?.getD ⟨#[]⟩
structure JT.Ok (n : Nat) (t : JT) : Prop where
  up : t.vars.Pairwise (· < ·)
  lt : ∀ v ∈ t.vars, v < n
  ways : Ways t.vars.length t.rows
  ne : t.rows ≠ []
def JT.pre (t : JT) (row : List ByteArray) (v : Nat) : List ByteArray := (t.vars.filter fun u => decide (u < v)).map (gt row)
def JT.keys (t : JT) (row : List ByteArray) (v : Nat) : List ByteArray := folX t.vars.length t.rows (t.pre row v)
def inB (l : List ByteArray) (k : ByteArray) : Bool := l.any fun y => decide (y = k)
theorem inB_iff (l : List ByteArray) (k : ByteArray) : inB l k = true ↔ k ∈ l := by simp [inB]
def common (ts : List JT) (row : List ByteArray) (v : Nat) : List ByteArray := match ts.filter fun t => decide (v ∈ t.vars) with
  | [] => []
  | t :: l => (t.keys row v).filter fun k => l.all fun t' => inB (t'.keys row v) k
/-- The rows that begin with row, of length v; k are left. -/
def binds (ts : List JT) (p : Nat → List ByteArray → Bool) : Nat → Nat → List ByteArray → List (List ByteArray)
  | 0, v, row => if p v row = true then [row] else []
  | k + 1, v, row => if p v row = true then (common ts row v).flatMap fun key => binds ts p k (v + 1) (row ++ [key]) else []
theorem gt_take {x : List ByteArray} {v u : Nat} (h : u < v) : gt (x.take v) u = gt x u := by
  unfold gt
  rw [List.getElem?_take, if_pos h]
theorem gt_app {x y : List ByteArray} {u : Nat} (h : u < x.length) : gt (x ++ y) u = gt x u := by
  unfold gt
  rw [List.getElem?_append_left h]
theorem gt_end (x : List ByteArray) (k : ByteArray) : gt (x ++ [k]) x.length = k := by simp [gt]
theorem pre_congr {t : JT} {x y : List ByteArray} {v : Nat} (h : ∀ u, u < v → gt x u = gt y u) : t.pre x v = t.pre y v := by
  unfold JT.pre
  refine List.map_congr_left fun u hu => h u ?_
  have := (List.mem_filter.1 hu).2
  simpa using this
theorem filter_succ {l : List Nat} (hp : l.Pairwise (· < ·)) (v : Nat) : (l.filter fun u => decide (u < v + 1)) = (l.filter fun u => decide (u < v)) ++ if v ∈ l then [v] else [] := by
  induction l with
  | nil => rfl
  | cons a l ih =>
    have ih := ih (List.pairwise_cons.1 hp).2
    have hlt := (List.pairwise_cons.1 hp).1
    by_cases h1 : a < v
    · rw [List.filter_cons_of_pos (by simp; omega), List.filter_cons_of_pos (by simpa using h1), ih, List.cons_append]
      have : (v ∈ a :: l) ↔ v ∈ l := by
        rw [List.mem_cons]
        exact ⟨fun h => h.elim (fun e => by omega) id, .inr⟩
      simp only [this]
    · have h0 : ∀ m, m ≤ v → (l.filter fun u => decide (u < m)) = [] := fun m hm => List.filter_eq_nil_iff.2 fun u hu => by
        have := hlt u hu
        simp
        omega
      rw [List.filter_cons_of_neg (a := a) (p := fun u => decide (u < v)) (by simpa using h1), h0 v (Nat.le_refl _), List.nil_append]
      by_cases h2 : a = v
      · subst h2
        rw [if_pos (by simp), List.filter_cons_of_pos (by simp)]
        congr 1
        refine List.filter_eq_nil_iff.2 fun u hu => ?_
        have := hlt u hu
        simp
        omega
      · rw [List.filter_cons_of_neg (by simp; omega), if_neg ?_]
        · refine List.filter_eq_nil_iff.2 fun u hu => ?_
          have := hlt u hu
          simp
          omega
        · intro h
          rcases List.mem_cons.1 h with h | h
          · exact h2 h.symm
          · have := hlt v h
            omega
theorem filter_len {l : List Nat} (hp : l.Pairwise (· < ·)) {v : Nat} (hv : v ∈ l) : (l.filter fun u => decide (u < v)).length < l.length := by
  induction l with
  | nil => cases hv
  | cons a l ih =>
    by_cases h1 : a < v
    · rw [List.filter_cons_of_pos (by simpa using h1)]
      have hv : v ∈ l := by
        rcases List.mem_cons.1 hv with h | h
        · omega
        · exact h
      have := ih (List.pairwise_cons.1 hp).2 hv
      rw [List.length_cons, List.length_cons]
      omega
    · rw [List.filter_cons_of_neg (by simpa using h1)]
      have := List.length_filter_le (fun u => decide (u < v)) l
      simp
      omega
theorem JT.Ok.pre_succ {n : Nat} {t : JT} (h : t.Ok n) (row : List ByteArray) (v : Nat) : t.pre row (v + 1) = t.pre row v ++ if v ∈ t.vars then [gt row v] else [] := by
  unfold JT.pre
  rw [filter_succ h.up, List.map_append]
  split <;> rfl
theorem JT.Ok.pre_len {n : Nat} {t : JT} (h : t.Ok n) (row : List ByteArray) {v : Nat} (hv : v ∈ t.vars) : (t.pre row v).length < t.vars.length := by
  unfold JT.pre
  rw [List.length_map]
  exact filter_len h.up hv
theorem JT.Ok.pre_all {n : Nat} {t : JT} (h : t.Ok n) (row : List ByteArray) : t.pre row n = t.vars.map (gt row) := by
  unfold JT.pre
  rw [List.filter_eq_self.2 fun u hu => by simpa using h.lt u hu]
/-- Some row of the table begins as this. -/
def JT.has (t : JT) (b : List ByteArray) : Prop := ∃ x ∈ t.rows, x.take b.length = b
theorem JT.Ok.has_all {n : Nat} {t : JT} (h : t.Ok n) (row : List ByteArray) : t.has (t.pre row n) ↔ t.vars.map (gt row) ∈ t.rows := by
  rw [h.pre_all]
  constructor
  · rintro ⟨x, hx, e⟩
    have := h.ways.len x hx
    rw [List.length_map, ← this, List.take_length] at e
    rwa [← e]
  · intro hx
    exact ⟨_, hx, by rw [List.take_length]⟩
theorem JT.Ok.keys_mem {n : Nat} {t : JT} (h : t.Ok n) (row : List ByteArray) {v : Nat} (hv : v ∈ t.vars) (k : ByteArray) : k ∈ t.keys row v ↔ t.has (t.pre row v ++ [k]) := by
  have hl := h.pre_len row hv
  unfold JT.keys folX
  rw [if_neg (by omega), folR_mem _ _ _ (fun x hx => by rw [h.ways.len x hx]; exact hl)]
  unfold JT.has
  rw [List.length_append, List.length_singleton]
theorem JT.Ok.keys_rising {n : Nat} {t : JT} (h : t.Ok n) (row : List ByteArray) {v : Nat} (hv : v ∈ t.vars) : RisingB (t.keys row v) := by
  have hl := h.pre_len row hv
  unfold JT.keys folX
  rw [if_neg (by omega)]
  exact folR_rising h.ways hl
theorem common_mem {ts : List JT} (row : List ByteArray) {v : Nat} (hv : ∃ t ∈ ts, v ∈ t.vars) (k : ByteArray) : k ∈ common ts row v ↔ ∀ t ∈ ts, v ∈ t.vars → k ∈ t.keys row v := by
  unfold common
  have hm : ∀ t, t ∈ (ts.filter fun t => decide (v ∈ t.vars)) ↔ t ∈ ts ∧ v ∈ t.vars := fun t => by rw [List.mem_filter]; simp
  cases hf : ts.filter fun t => decide (v ∈ t.vars) with
  | nil =>
    exfalso
    obtain ⟨t, h1, h2⟩ := hv
    have := (hm t).2 ⟨h1, h2⟩
    rw [hf] at this
    cases this
  | cons t l =>
    rw [hf] at hm
    simp only [List.mem_filter, List.all_eq_true, inB_iff]
    constructor
    · rintro ⟨h1, h2⟩ t' h3 h4
      rcases List.mem_cons.1 ((hm t').2 ⟨h3, h4⟩) with rfl | h5
      · exact h1
      · exact h2 t' h5
    · intro h
      exact ⟨h t ((hm t).1 (by simp)).1 ((hm t).1 (by simp)).2, fun t' h5 => h t' ((hm t').1 (by simp [h5])).1 ((hm t').1 (by simp [h5])).2⟩
theorem common_rising {n : Nat} {ts : List JT} (hts : ∀ t ∈ ts, t.Ok n) (row : List ByteArray) (v : Nat) : RisingB (common ts row v) := by
  unfold common
  cases hf : ts.filter fun t => decide (v ∈ t.vars) with
  | nil => exact List.Pairwise.nil
  | cons t l =>
    have hm : t ∈ ts.filter fun t => decide (v ∈ t.vars) := by rw [hf]; simp
    rw [List.mem_filter] at hm
    exact ((hts t hm.1).keys_rising row (by simpa using hm.2)).filter _
/-- The search may go on: every table has a row that begins so. -/
def Live (ts : List JT) (row : List ByteArray) (v : Nat) : Prop := ∀ t ∈ ts, t.has (t.pre row v)
theorem Live.zero {n : Nat} {ts : List JT} (hts : ∀ t ∈ ts, t.Ok n) (row : List ByteArray) : Live ts row 0 := by
  intro t ht
  obtain ⟨x, hx⟩ : ∃ x, x ∈ t.rows := by
    have := (hts t ht).ne
    cases h : t.rows with
    | nil => exact absurd h this
    | cons x l => exact ⟨x, by simp⟩
  refine ⟨x, hx, ?_⟩
  have : t.pre row 0 = [] := by
    unfold JT.pre
    rw [List.filter_eq_nil_iff.2 (fun u _ => by simp)]
    rfl
  rw [this]
  rfl
theorem Live.step {n : Nat} {ts : List JT} (hts : ∀ t ∈ ts, t.Ok n) {row : List ByteArray} {v : Nat} (hlen : row.length = v) (h : Live ts row v) {k : ByteArray} (hk : ∀ t ∈ ts, v ∈ t.vars → k ∈ t.keys row v) : Live ts (row ++ [k]) (v + 1) := by
  intro t ht
  rw [(hts t ht).pre_succ]
  have e : t.pre (row ++ [k]) v = t.pre row v := pre_congr fun u hu => gt_app (by omega)
  have e2 : gt (row ++ [k]) v = k := by rw [← hlen, gt_end]
  rw [e, e2]
  by_cases hv : v ∈ t.vars
  · rw [if_pos hv]
    exact ((hts t ht).keys_mem row hv k).1 (hk t ht hv)
  · rw [if_neg hv, List.append_nil]
    exact h t ht
theorem binds_mem {n : Nat} {ts : List JT} {p : Nat → List ByteArray → Bool} (hts : ∀ t ∈ ts, t.Ok n) (hall : ∀ v, v < n → ∃ t ∈ ts, v ∈ t.vars) (x : List ByteArray) : ∀ (k v : Nat) (row : List ByteArray), v + k = n → row.length = v → Live ts row v →
    (x ∈ binds ts p k v row ↔ x.length = n ∧ x.take v = row ∧ (∀ u, v ≤ u → u ≤ n → p u (x.take u) = true) ∧ ∀ t ∈ ts, t.vars.map (gt x) ∈ t.rows) := by
  intro k
  induction k with
  | zero =>
    intro v row hv hlen hlive
    have hlive2 : ∀ t ∈ ts, t.vars.map (gt row) ∈ t.rows := fun t ht => by
      have := hlive t ht
      rw [show v = n by omega] at this
      exact ((hts t ht).has_all row).1 this
    rw [binds]
    have hvn : v = n := by omega
    subst hvn
    constructor
    · intro h
      split at h
      · rename_i hp
        rw [List.mem_singleton] at h
        subst h
        have e : x.take v = x := by rw [← hlen, List.take_length]
        exact ⟨hlen, e, fun u h1 h2 => by rw [show u = v by omega, e]; exact hp, hlive2⟩
      · cases h
    · rintro ⟨h1, h2, h3, h4⟩
      have e : x.take v = x := by rw [← h1, List.take_length]
      have hp := h3 v (Nat.le_refl _) (Nat.le_refl _)
      rw [h2] at hp
      rw [if_pos hp, List.mem_singleton, ← h2, e]
  | succ k ih =>
    intro v row hv hlen hlive
    have hvn : v < n := by omega
    rw [binds]
    have hcm := common_mem row (hall v hvn)
    constructor
    · intro h
      split at h
      · rename_i hp
        obtain ⟨key, hk, hx⟩ := List.mem_flatMap.1 h
        have hk := (hcm key).1 hk
        obtain ⟨h1, h2, h3, h4⟩ := (ih (v + 1) (row ++ [key]) (by omega) (by simp [hlen]) (hlive.step hts hlen hk)).1 hx
        have e : x.take v = row := by
          have := congrArg (List.take v) h2
          rw [List.take_take, Nat.min_eq_left (by omega), ← hlen, List.take_left] at this
          rw [← hlen]
          exact this
        refine ⟨h1, e, fun u hu1 hu2 => ?_, h4⟩
        rcases Nat.eq_or_lt_of_le hu1 with hu | hu
        · rw [← hu, e]
          exact hp
        · exact h3 u hu hu2
      · cases h
    · rintro ⟨h1, h2, h3, h4⟩
      have hp := h3 v (Nat.le_refl _) (by omega)
      rw [h2] at hp
      rw [if_pos hp]
      have hge : ∀ u, u < v → gt row u = gt x u := fun u hu => by rw [← h2, gt_take hu]
      have hk : ∀ t ∈ ts, v ∈ t.vars → gt x v ∈ t.keys row v := fun t ht hvt => by
        rw [(hts t ht).keys_mem row hvt]
        refine ⟨_, h4 t ht, ?_⟩
        have e1 : t.pre row v ++ [gt x v] = t.pre x (v + 1) := by
          rw [(hts t ht).pre_succ, if_pos hvt, pre_congr hge]
        rw [e1]
        have e2 : t.vars.map (gt x) = t.pre x n := ((hts t ht).pre_all x).symm
        rw [e2]
        obtain ⟨tl, htl⟩ : ∃ tl, t.pre x n = t.pre x (v + 1) ++ tl := by
          have : ∀ m, v + 1 ≤ m → ∃ tl, t.pre x m = t.pre x (v + 1) ++ tl := by
            intro m hm
            induction m with
            | zero => omega
            | succ m ihm =>
              rcases Nat.eq_or_lt_of_le hm with e | e
              · exact ⟨[], by rw [← e, List.append_nil]⟩
              · obtain ⟨tl, htl⟩ := ihm (by omega)
                exact ⟨_, by rw [(hts t ht).pre_succ, htl, List.append_assoc]⟩
          exact this n (by omega)
        rw [htl, List.take_left]
      refine List.mem_flatMap.2 ⟨gt x v, (hcm _).2 hk, (ih (v + 1) (row ++ [gt x v]) (by omega) (by simp [hlen]) (hlive.step hts hlen hk)).2 ⟨h1, ?_, fun u hu1 hu2 => h3 u (by omega) hu2, h4⟩⟩
      rw [List.take_add_one, h2, List.getElem?_eq_getElem (by omega)]
      unfold gt
      rw [List.getElem?_eq_getElem (by omega)]
      rfl
end Go.Proofs.YtpgbenijjodoeaaGreat
namespace Go.Proofs.YtpgbenijjodoeaaGreat
open Go.ChangeShapes Go.WideShapes Go.ChangeAt Go.RowKit
/-- What stays: the walk's block, its matcher's, the row's; the tables, the cursors' blocks, the tries'; the tests. T: what of the old may change. -/
structure Scn where
  w2 : World
  T : Nat → Prop
  pw : Nat
  pm : Nat
  gr : Nat
  cr : Nat
  n : Nat
  yv : Value
  ts : List JT
  pcs : List Nat
  pts : List Nat
  p : Nat → List ByteArray → Bool
  lo : Nat
def Scn.far (sc : Scn) (b : Nat) : Prop := sc.T b ∨ sc.w2.heap.size ≤ b
/-- Of what takes the rows: it hangs on its own blocks and on what stays. -/
def Stable (sc : Scn) (J : (Nat → Prop) → World → Prop) : Prop := ∀ (C T : Nat → Prop) (W W' : World), J C W → ButS T W W' → (∀ b, T b → ¬ C b ∧ sc.far b) → J C W'
def RowAt (sc : Scn) (W : World) (x : List ByteArray) : Prop := ∀ j y, x[j]? = some y → W.cell? ⟨sc.gr, j, none⟩ = some (.string y) ∧ W.frozen? ⟨sc.gr, j, none⟩ = false
structure WSt (sc : Scn) (J : (Nat → Prop) → World → Prop) (W : World) (row : List ByteArray) (L : Nat → List RLv) (F : Nat → Prop) : Prop where
  env : ButS sc.T sc.w2 W
  far : ∀ b, F b → sc.far b
  low : ∀ b, F b → b < W.heap.size
  ex : ∃ (x : List ByteArray) (S : Nat → Nat → Prop) (C : Nat → Prop), (x.length = sc.n ∧ x.take row.length = row ∧ RowAt sc W x) ∧
    (∀ (i : Nat) (t : JT) (pc pt : Nat), sc.ts[i]? = some t → sc.pcs[i]? = some pc → sc.pts[i]? = some pt → KurV W sc.lo pc pt t.vars.length t.rows (S i) (L i)) ∧
    (∀ (i j b : Nat), i ≠ j → S i b → ¬ S j b) ∧ (∀ (i b : Nat), S i b → b ≠ sc.gr ∧ ¬ C b) ∧ ¬ C sc.gr ∧ J C W ∧ (∀ b, F b ↔ b = sc.gr ∨ C b ∨ ∃ i, S i b)
/-- What a call leaves. -/
def Mv (sc : Scn) (J : (Nat → Prop) → World → Prop) (W : World) (row : List ByteArray) (L : Nat → List RLv) (F : Nat → Prop) (W' : World) : Prop := ∃ F', WSt sc J W' row L F' ∧ ButS F W W' ∧ ∀ b, F' b → F b ∨ W.heap.size ≤ b
def updL (L : Nat → List RLv) (i : Nat) (ls : List RLv) : Nat → List RLv := fun k => if k = i then ls else L k
theorem updL_same (L : Nat → List RLv) (i : Nat) (ls : List RLv) : updL L i ls i = ls := by simp [updL]
theorem updL_other (L : Nat → List RLv) {i k : Nat} (ls : List RLv) (h : k ≠ i) : updL L i ls k = L k := by simp [updL, h]
theorem updL_id (L : Nat → List RLv) (i : Nat) : updL L i (L i) = L := by
  funext k
  by_cases h : k = i
  · rw [h, updL_same]
  · rw [updL_other L _ h]
theorem env_step {T S : Nat → Prop} {w W W' : World} (h : ButS T w W) (k : ButS S W W') (hs : ∀ b, S b → T b ∨ w.heap.size ≤ b) : ButS T w W' :=
  ⟨k.os.trans h.os, k.tape.trans h.tape, k.output.trans h.output, Nat.le_trans h.size k.size, fun b hb hn => (k.block b (Nat.lt_of_lt_of_le hb h.size) (fun hS => by
    rcases hs b hS with h1 | h1
    · exact hn h1
    · omega)).trans (h.block b hb hn)⟩
theorem ButS.frozen {S : Nat → Prop} {w x : World} (h : ButS S w x) {b o : Nat} {v : Value} {q : Bool} (hb : ¬ S b) (hc : w.cell? ⟨b, o, none⟩ = some v) (hf : w.frozen? ⟨b, o, none⟩ = q) : x.frozen? ⟨b, o, none⟩ = q := by
  rw [← hf]
  have := h.block b (World.block_lt_of_cell? w ⟨b, o, none⟩ hc) hb
  simp [World.frozen?, this]
theorem RowAt.but {sc : Scn} {W W' : World} {x : List ByteArray} {S : Nat → Prop} (h : RowAt sc W x) (e : ButS S W W') (hs : ¬ S sc.gr) : RowAt sc W' x := fun j y hy => ⟨e.cell hs (h j y hy).1, e.frozen hs (h j y hy).1 (h j y hy).2⟩
section
variable {sc : Scn} {J : (Nat → Prop) → World → Prop} {W : World} {row : List ByteArray} {L : Nat → List RLv} {F : Nat → Prop}
theorem WSt.ext (hJ : Stable sc J) (h : WSt sc J W row L F) {W' : World} (e : Ext W W') : WSt sc J W' row L F := by
  obtain ⟨x, S, C, h1, h2, h3, h4, h5, h6, h7⟩ := h.ex
  have eb : ButS (fun _ => False) W W' := ⟨e.os, e.tape, e.output, e.size, fun b hb _ => e.block b hb⟩
  exact ⟨h.env.ext e, h.far, fun b hb => Nat.lt_of_lt_of_le (h.low b hb) e.size, x, S, C, ⟨h1.1, h1.2.1, h1.2.2.but eb id⟩, fun i t pc pt a1 a2 a3 => (h2 i t pc pt a1 a2 a3).ext e, h3, h4, h5, hJ _ _ _ _ h6 eb (fun _ hb => hb.elim), h7⟩
theorem WSt.mv (h : WSt sc J W row L F) : Mv sc J W row L F W := ⟨F, h, ButS.refl _ _, fun _ h => .inl h⟩
theorem WSt.mv_ext (hJ : Stable sc J) (h : WSt sc J W row L F) {W' : World} (e : Ext W W') : Mv sc J W row L F W' := ⟨F, h.ext hJ e, (ButS.refl _ _).ext e, fun _ h => .inl h⟩
/-- A cursor of the search; what it leaves is the search's. -/
theorem WSt.cur (hJ : Stable sc J) (h : WSt sc J W row L F) {i : Nat} {t : JT} {pc pt : Nat} (ht : sc.ts[i]? = some t) (hc : sc.pcs[i]? = some pc) (hp : sc.pts[i]? = some pt) :
    ∃ S, KurV W sc.lo pc pt t.vars.length t.rows S (L i) ∧ ∀ W' ls, KurP sc.lo pc pt t.vars.length t.rows S ls W W' → Mv sc J W row (updL L i ls) F W' := by
  obtain ⟨x, S, C, h1, h2, h3, h4, h5, h6, h7⟩ := h.ex
  refine ⟨S i, h2 i t pc pt ht hc hp, fun W' ls ⟨Si, k1, k2, k3⟩ => ?_⟩
  have hSF : ∀ b, S i b → F b := fun b hb => (h7 b).2 (.inr (.inr ⟨i, hb⟩))
  have hlow : ∀ k b, S k b → b < W.heap.size := fun k b hb => h.low b ((h7 b).2 (.inr (.inr ⟨k, hb⟩)))
  have hgr : sc.gr < W.heap.size := h.low _ ((h7 _).2 (.inl rfl))
  have hCl : ∀ b, C b → b < W.heap.size := fun b hb => h.low b ((h7 b).2 (.inr (.inl hb)))
  have hfar : ∀ b, S i b → sc.far b := fun b hb => h.far b (hSF b hb)
  let S' : Nat → Nat → Prop := fun k => if k = i then Si else S k
  have hSi : S' i = Si := if_pos rfl
  have hSk : ∀ k, k ≠ i → S' k = S k := fun k hk => if_neg hk
  have hnotSi : ∀ k b, k ≠ i → S k b → ¬ Si b := fun k b hk hb hb2 => by
    rcases k3 b hb2 with h8 | h8
    · exact h3 k i b hk hb h8
    · have := hlow k b hb
      omega
  have hnewS : ∀ b, Si b → b < W'.heap.size := fun b hb => by
    obtain ⟨rb, sp, c1, c2, c3, rfl⟩ := k1
    obtain ⟨⟨a, c, t1, t2, t3⟩, t4⟩ := c1
    rcases hb with rfl | hb
    · exact (Array.getElem?_eq_some_iff.1 t1).1
    · rw [← t3] at hb
      exact (t2.lt b hb).2
  refine ⟨fun b => b = sc.gr ∨ C b ∨ ∃ k, S' k b, ⟨env_step h.env k2 hfar, fun b hb => ?_, fun b hb => ?_, x, S', C, ⟨h1.1, h1.2.1, h1.2.2.but k2 (fun hb => (h4 i _ hb).1 rfl)⟩, fun k t' pc' pt' a1 a2 a3 => ?_, fun k j b hkj hb => ?_, fun k b hb => ?_, h5, hJ _ _ _ _ h6 k2 (fun b hb => ⟨(h4 i b hb).2, hfar b hb⟩), fun b => Iff.rfl⟩, k2.mono fun b _ hb => hSF b hb, fun b hb => ?_⟩
  · rcases hb with hb | hb | ⟨k, hb⟩
    · exact h.far b ((h7 b).2 (.inl hb))
    · exact h.far b ((h7 b).2 (.inr (.inl hb)))
    · by_cases hk : k = i
      · subst hk
        rw [hSi] at hb
        rcases k3 b hb with h8 | h8
        · exact hfar b h8
        · exact .inr (Nat.le_trans h.env.size h8)
      · rw [hSk k hk] at hb
        exact h.far b ((h7 b).2 (.inr (.inr ⟨k, hb⟩)))
  · rcases hb with rfl | hb | ⟨k, hb⟩
    · exact Nat.lt_of_lt_of_le hgr k2.size
    · exact Nat.lt_of_lt_of_le (hCl b hb) k2.size
    · by_cases hk : k = i
      · subst hk
        rw [hSi] at hb
        exact hnewS b hb
      · rw [hSk k hk] at hb
        exact Nat.lt_of_lt_of_le (hlow k b hb) k2.size
  · by_cases hk : k = i
    · subst hk
      rw [ht] at a1
      rw [hc] at a2
      rw [hp] at a3
      cases a1
      cases a2
      cases a3
      rw [hSi, updL_same]
      exact k1
    · rw [hSk k hk, updL_other L _ hk]
      exact (h2 k t' pc' pt' a1 a2 a3).buts k2 (fun b hb hb2 => h3 k i b hk hb hb2)
  · by_cases hk : k = i
    · subst hk
      rw [hSi] at hb
      rw [hSk j (Ne.symm hkj)]
      exact fun hb2 => hnotSi j b (Ne.symm hkj) hb2 hb
    · rw [hSk k hk] at hb
      by_cases hj : j = i
      · subst hj
        rw [hSi]
        exact hnotSi k b hk hb
      · rw [hSk j hj]
        exact h3 k j b hkj hb
  · by_cases hk : k = i
    · subst hk
      rw [hSi] at hb
      rcases k3 b hb with h8 | h8
      · exact h4 k b h8
      · refine ⟨fun e => by omega, fun hC => ?_⟩
        have := hCl b hC
        omega
    · rw [hSk k hk] at hb
      exact h4 k b hb
  · rcases hb with hb | hb | ⟨k, hb⟩
    · exact .inl ((h7 b).2 (.inl hb))
    · exact .inl ((h7 b).2 (.inr (.inl hb)))
    · by_cases hk : k = i
      · subst hk
        rw [hSi] at hb
        rcases k3 b hb with h8 | h8
        · exact .inl (hSF b h8)
        · exact .inr h8
      · rw [hSk k hk] at hb
        exact .inl ((h7 b).2 (.inr (.inr ⟨k, hb⟩)))
theorem WSt.cut {r : List ByteArray} (h : WSt sc J W (row ++ r) L F) : WSt sc J W row L F := by
  obtain ⟨x, S, C, ⟨h1, h2, h3⟩, h4⟩ := h.ex
  refine ⟨h.env, h.far, h.low, x, S, C, ⟨h1, ?_, h3⟩, h4⟩
  have := congrArg (List.take row.length) h2
  rwa [List.take_take, List.length_append, Nat.min_eq_left (by omega), List.take_left] at this
theorem Mv.cut {r : List ByteArray} {W' : World} (h : Mv sc J W (row ++ r) L F W') : Mv sc J W row L F W' := by
  obtain ⟨F', h1, h2, h3⟩ := h
  exact ⟨F', h1.cut, h2, h3⟩
/-- The row is written. -/
theorem WSt.put (hJ : Stable sc J) (h : WSt sc J W row L F) (hv : row.length < sc.n) (k : ByteArray) : WSt sc J (W.setCell ⟨sc.gr, row.length, none⟩ (.string k)) (row ++ [k]) L F ∧ ButS F W (W.setCell ⟨sc.gr, row.length, none⟩ (.string k)) ∧ ∃ y, W.cell? ⟨sc.gr, row.length, none⟩ = some (.string y) ∧ W.frozen? ⟨sc.gr, row.length, none⟩ = false := by
  obtain ⟨x, S, C, ⟨x1, x2, x3⟩, h2, h3, h4, h5, h6, h7⟩ := h.ex
  have hgF : F sc.gr := (h7 _).2 (.inl rfl)
  have kb : ButS (fun b => b = sc.gr) W (W.setCell ⟨sc.gr, row.length, none⟩ (.string k)) := ButS.set (S := fun b => b = sc.gr) (ButS.refl _ W) (.inl rfl) _ _
  obtain ⟨y, hy⟩ : ∃ y, x[row.length]? = some y := ⟨_, List.getElem?_eq_getElem (by omega)⟩
  refine ⟨⟨env_step h.env kb (fun b hb => by subst hb; exact h.far _ hgF), h.far, fun b hb => by simpa using h.low b hb, x.set row.length k, S, C, ⟨by simpa using x1, ?_, fun j z hz => ?_⟩, fun i t pc pt a1 a2 a3 => (h2 i t pc pt a1 a2 a3).buts kb (fun b hb e => (h4 i b hb).1 e), h3, h4, h5, hJ _ _ _ _ h6 kb (fun b hb => by subst hb; exact ⟨h5, h.far _ hgF⟩), h7⟩, kb.mono fun b _ hb => by subst hb; exact hgF, y, x3 _ _ hy⟩
  · rw [List.length_append, List.length_singleton, List.take_add_one, List.take_set_of_le (Nat.le_refl _), x2, List.getElem?_set_self (by omega)]
    rfl
  · rw [List.getElem?_set] at hz
    have hc := x3 _ _ hy
    by_cases hj : row.length = j
    · subst hj
      rw [if_pos rfl, if_pos (by omega)] at hz
      cases hz
      refine ⟨?_, ?_⟩
      · exact World.cell?_setCell_same _ _ _ hc.1
      · rw [World.frozen?_setCell]
        exact hc.2
    · rw [if_neg hj] at hz
      refine ⟨?_, ?_⟩
      · rw [World.cell?_setCell_other _ _ _ _ (by intro e; exact hj (by injection e))]
        exact (x3 j z hz).1
      · rw [World.frozen?_setCell]
        exact (x3 j z hz).2
end
end Go.Proofs.YtpgbenijjodoeaaGreat
namespace Go.Proofs.YtpgbenijjodoeaaGreat
def atv (ts : List JT) (v : Nat) : List Nat := (List.range ts.length).filter fun i => match ts[i]? with
  | some t => decide (v ∈ t.vars)
  | none => false
theorem atv_iff (ts : List JT) (v i : Nat) : i ∈ atv ts v ↔ ∃ t, ts[i]? = some t ∧ v ∈ t.vars := by
  unfold atv
  rw [List.mem_filter, List.mem_range]
  constructor
  · rintro ⟨h1, h2⟩
    rw [List.getElem?_eq_getElem h1] at h2
    exact ⟨_, List.getElem?_eq_getElem h1, by simpa using h2⟩
  · rintro ⟨t, h1, h2⟩
    refine ⟨(List.getElem?_eq_some_iff.1 h1).1, ?_⟩
    rw [h1]
    simpa using h2
theorem atv_len (ts : List JT) (v : Nat) : (atv ts v).length ≤ ts.length := by
  unfold atv
  exact Nat.le_trans (List.length_filter_le _ _) (by simp)
theorem rising_lt {ks : List ByteArray} (h : RisingB ks) {i j : Nat} {x y : ByteArray} (hij : i < j) (hx : ks[i]? = some x) (hy : ks[j]? = some y) : ltB x y = true := by
  obtain ⟨h1, rfl⟩ := List.getElem?_eq_some_iff.1 hx
  obtain ⟨h2, rfl⟩ := List.getElem?_eq_some_iff.1 hy
  exact (List.pairwise_iff_getElem.1 h) i j h1 h2 hij
structure LeapI (ts : List JT) (row : List ByteArray) (v : Nat) (pos : Nat → Nat) (mm i : Nat) : Prop where
  le : ∀ i t, ts[i]? = some t → v ∈ t.vars → pos i ≤ (t.keys row v).length
  mm_le : mm ≤ (common ts row v).length
  pend : ∀ k ∈ (common ts row v).drop mm, ∀ i t, ts[i]? = some t → v ∈ t.vars → ∃ q, pos i ≤ q ∧ (t.keys row v)[q]? = some k
  done : ∀ k ∈ (common ts row v).take mm, ∀ t, ts[i]? = some t → ∀ y, (t.keys row v)[pos i]? = some y → ltB k y = true
def updN (pos : Nat → Nat) (i j : Nat) : Nat → Nat := fun k => if k = i then j else pos k
theorem updN_same (pos : Nat → Nat) (i j : Nat) : updN pos i j i = j := by simp [updN]
theorem updN_other (pos : Nat → Nat) {i k : Nat} (j : Nat) (h : k ≠ i) : updN pos i j k = pos k := by simp [updN, h]
section
variable {n : Nat} {ts : List JT} {row : List ByteArray} {v mm i : Nat} {pos : Nat → Nat}
theorem LeapI.start (hv : ∃ t ∈ ts, v ∈ t.vars) (i : Nat) : LeapI ts row v (fun _ => 0) 0 i := by
  refine ⟨fun _ _ _ _ => Nat.zero_le _, Nat.zero_le _, fun k hk i t h1 h2 => ?_, fun k hk => by simp at hk⟩
  rw [List.drop_zero] at hk
  obtain ⟨q, hq⟩ := List.mem_iff_getElem?.1 ((common_mem row hv k).1 hk t (List.mem_of_getElem? h1) h2)
  exact ⟨q, Nat.zero_le _, hq⟩
theorem LeapI.fin (h : LeapI ts row v pos mm i) {c : Nat} {t : JT} (hc : ts[c]? = some t) (hv : v ∈ t.vars) (he : pos c = (t.keys row v).length) : mm = (common ts row v).length := by
  rcases Nat.lt_or_ge mm (common ts row v).length with h1 | h1
  · exfalso
    obtain ⟨q, q1, q2⟩ := h.pend _ (List.mem_iff_getElem?.2 ⟨0, by rw [List.getElem?_drop, Nat.add_zero]; exact List.getElem?_eq_getElem h1⟩) c t hc hv
    have := (List.getElem?_eq_some_iff.1 q2).1
    omega
  · have := h.mm_le
    omega
/-- What is to come is not below a key that a cursor stands at. -/
theorem LeapI.ge (hts : ∀ t ∈ ts, t.Ok n) (h : LeapI ts row v pos mm i) {c : Nat} {t : JT} (hc : ts[c]? = some t) (hv : v ∈ t.vars) {key : ByteArray} (hk : (t.keys row v)[pos c]? = some key) {k : ByteArray} (hp : k ∈ (common ts row v).drop mm) : key = k ∨ ltB key k = true := by
  obtain ⟨q, q1, q2⟩ := h.pend k hp c t hc hv
  rcases Nat.eq_or_lt_of_le q1 with e | e
  · subst e
    rw [hk] at q2
    exact .inl (by injection q2)
  · exact .inr (rising_lt ((hts t (List.mem_of_getElem? hc)).keys_rising row hv) e hk q2)
theorem LeapI.seek (hts : ∀ t ∈ ts, t.Ok n) (h : LeapI ts row v pos mm i) {t : JT} (hi : ts[i]? = some t) (hvi : v ∈ t.vars) {key : ByteArray} (hk : (t.keys row v)[pos i]? = some key) {c : Nat} {t' : JT} (hc : ts[c]? = some t') (hvc : v ∈ t'.vars) {j : Nat}
    (j1 : pos c ≤ j) (j2 : j ≤ (t'.keys row v).length) (j3 : ∀ q y, pos c ≤ q → q < j → (t'.keys row v)[q]? = some y → ltB y key = true) : LeapI ts row v (updN pos c j) mm i ∧ (c = i → j = pos i) := by
  have hci : c = i → j = pos i := fun e => by
    subst e
    rw [hi] at hc
    cases hc
    rcases Nat.eq_or_lt_of_le j1 with e | e
    · exact e.symm
    · exact absurd (j3 _ key (Nat.le_refl _) e hk) (lt_irr key)
  refine ⟨⟨fun k tk h1 h2 => ?_, h.mm_le, fun k hp x tx h1 h2 => ?_, fun k hd tk h1 y hy => ?_⟩, hci⟩
  · by_cases e : k = c
    · subst e
      rw [hc] at h1
      cases h1
      rw [updN_same]
      exact j2
    · rw [updN_other pos _ e]
      exact h.le k tk h1 h2
  · obtain ⟨q, q1, q2⟩ := h.pend k hp x tx h1 h2
    by_cases e : x = c
    · subst e
      rw [hc] at h1
      cases h1
      refine ⟨q, ?_, q2⟩
      rw [updN_same]
      rcases Nat.lt_or_ge q j with h3 | h3
      · exfalso
        have h4 := j3 q k q1 h3 q2
        rcases h.ge hts hi hvi hk hp with e2 | e2
        · subst e2
          exact lt_irr _ h4
        · exact lt_irr _ (lt_trans h4 e2)
      · exact h3
    · rw [updN_other pos _ e]
      exact ⟨q, q1, q2⟩
  · by_cases e : i = c
    · have := hci e.symm
      subst e
      rw [updN_same, this] at hy
      exact h.done k hd tk h1 y hy
    · rw [updN_other pos _ e] at hy
      exact h.done k hd tk h1 y hy
theorem LeapI.turn (h : LeapI ts row v pos mm i) {t : JT} (hi : ts[i]? = some t) {key : ByteArray} (hk : (t.keys row v)[pos i]? = some key) {c : Nat} {t' : JT} (hc : ts[c]? = some t') {y : ByteArray} (hy : (t'.keys row v)[pos c]? = some y) (hlt : ltB key y = true) : LeapI ts row v pos mm c :=
  ⟨h.le, h.mm_le, h.pend, fun k hd tk h1 z hz => by
    rw [hc] at h1
    cases h1
    rw [hy] at hz
    cases hz
    exact lt_trans (h.done k hd t hi key hk) hlt⟩
theorem LeapI.hit (hts : ∀ t ∈ ts, t.Ok n) (h : LeapI ts row v pos mm i) {t : JT} (hi : ts[i]? = some t) (hvi : v ∈ t.vars) {key : ByteArray} (hall : ∀ c t', ts[c]? = some t' → v ∈ t'.vars → (t'.keys row v)[pos c]? = some key) : (common ts row v)[mm]? = some key := by
  have hm : key ∈ common ts row v := (common_mem row ⟨t, List.mem_of_getElem? hi, hvi⟩ key).2 fun t' h1 h2 => by
    obtain ⟨c, hc⟩ := List.mem_iff_getElem?.1 h1
    exact List.mem_of_getElem? (hall c t' hc h2)
  obtain ⟨q, hq⟩ := List.mem_iff_getElem?.1 hm
  have hr := common_rising hts row v
  have hqlt := (List.getElem?_eq_some_iff.1 hq).1
  rcases Nat.lt_trichotomy q mm with h1 | h1 | h1
  · exfalso
    refine lt_irr key (h.done key (List.mem_iff_getElem?.2 ⟨q, ?_⟩) t hi key (hall i t hi hvi))
    rw [List.getElem?_take, if_pos h1]
    exact hq
  · rw [← h1]
    exact hq
  · exfalso
    obtain ⟨z, hz⟩ : ∃ z, (common ts row v)[mm]? = some z := ⟨_, List.getElem?_eq_getElem (by omega)⟩
    have hlt := rising_lt hr h1 hz hq
    rcases h.ge hts hi hvi (hall i t hi hvi) (List.mem_iff_getElem?.2 ⟨0, by rw [List.getElem?_drop, Nat.add_zero]; exact hz⟩) with e | e
    · subst e
      exact lt_irr _ hlt
    · exact lt_irr _ (lt_trans hlt e)
theorem LeapI.next (hts : ∀ t ∈ ts, t.Ok n) (h : LeapI ts row v pos mm i) {t : JT} (hi : ts[i]? = some t) (hvi : v ∈ t.vars) {key : ByteArray} (hk : (t.keys row v)[pos i]? = some key) (hm : (common ts row v)[mm]? = some key) : LeapI ts row v (updN pos i (pos i + 1)) (mm + 1) i := by
  have hr := common_rising hts row v
  have hri := (hts t (List.mem_of_getElem? hi)).keys_rising row hvi
  have hmlt := (List.getElem?_eq_some_iff.1 hm).1
  refine ⟨fun k tk h1 h2 => ?_, by omega, fun k hp x tx h1 h2 => ?_, fun k hd tk h1 y hy => ?_⟩
  · by_cases e : k = i
    · subst e
      rw [hi] at h1
      cases h1
      rw [updN_same]
      have := (List.getElem?_eq_some_iff.1 hk).1
      omega
    · rw [updN_other pos _ e]
      exact h.le k tk h1 h2
  · have hp0 : k ∈ (common ts row v).drop mm := by
      obtain ⟨q, hq⟩ := List.mem_iff_getElem?.1 hp
      rw [List.getElem?_drop] at hq
      exact List.mem_iff_getElem?.2 ⟨q + 1, by rw [List.getElem?_drop, show mm + (q + 1) = mm + 1 + q by omega]; exact hq⟩
    have hkk : ltB key k = true := by
      obtain ⟨q, hq⟩ := List.mem_iff_getElem?.1 hp
      rw [List.getElem?_drop] at hq
      exact rising_lt hr (by omega) hm hq
    obtain ⟨q, q1, q2⟩ := h.pend k hp0 x tx h1 h2
    by_cases e : x = i
    · subst e
      rw [hi] at h1
      cases h1
      refine ⟨q, ?_, q2⟩
      rw [updN_same]
      rcases Nat.eq_or_lt_of_le q1 with e | e
      · subst e
        rw [hk] at q2
        cases q2
        exact absurd hkk (lt_irr _)
      · exact e
    · rw [updN_other pos _ e]
      exact ⟨q, q1, q2⟩
  · rw [hi] at h1
    cases h1
    rw [updN_same] at hy
    have hky := rising_lt hri (Nat.lt_succ_self _) hk hy
    rw [List.take_add_one, hm] at hd
    rcases List.mem_append.1 hd with hd | hd
    · exact lt_trans (h.done k hd t hi key hk) hky
    · have : k = key := by simpa using hd
      rw [this]
      exact hky
/-- How many keys of the cursors at this variable are not below. -/
def rankK (ts : List JT) (row : List ByteArray) (v : Nat) (y : ByteArray) : Nat := ((ts.flatMap fun t => t.keys row v).filter fun k => !ltB k y).length
theorem filter_len_lt {α : Type} {l : List α} {p q : α → Bool} (hpq : ∀ x ∈ l, p x = true → q x = true) {x : α} (hx : x ∈ l) (h1 : p x = false) (h2 : q x = true) : (l.filter p).length < (l.filter q).length := by
  induction l with
  | nil => cases hx
  | cons a l ih =>
    have hle : (l.filter p).length ≤ (l.filter q).length := by
      clear ih hx h1 h2
      induction l with
      | nil => exact Nat.le_refl _
      | cons b l ih2 =>
        have ih2 := ih2 fun x hx => hpq x (by rcases List.mem_cons.1 hx with h | h <;> simp [h])
        by_cases hb : p b = true
        · rw [List.filter_cons_of_pos hb, List.filter_cons_of_pos (hpq b (by simp) hb)]
          simp only [List.length_cons]
          omega
        · rw [List.filter_cons_of_neg hb, List.filter_cons]
          split
          · simp only [List.length_cons]
            omega
          · exact ih2
    rcases List.mem_cons.1 hx with rfl | hx
    · rw [List.filter_cons_of_neg (by simp [h1]), List.filter_cons_of_pos h2, List.length_cons]
      omega
    · have ih := ih (fun x hx => hpq x (List.mem_cons_of_mem _ hx)) hx
      by_cases ha : p a = true
      · rw [List.filter_cons_of_pos ha, List.filter_cons_of_pos (hpq a (by simp) ha)]
        simp only [List.length_cons]
        omega
      · rw [List.filter_cons_of_neg ha, List.filter_cons]
        split
        · simp only [List.length_cons]
          omega
        · exact ih
theorem rank_lt {t : JT} {c : Nat} (hc : ts[c]? = some t) {q : Nat} {key y : ByteArray} (hk : (t.keys row v)[q]? = some key) (hlt : ltB key y = true) : rankK ts row v y < rankK ts row v key := by
  refine filter_len_lt (fun x _ hx => ?_) (x := key) (List.mem_flatMap.2 ⟨t, List.mem_of_getElem? hc, List.mem_of_getElem? hk⟩) (by simp [hlt]) (by simpa using lt_irr key)
  simp only [Bool.not_eq_true'] at hx ⊢
  cases h : ltB x key with
  | false => rfl
  | true =>
    rw [lt_trans h hlt] at hx
    cases hx
end
/-- The levels where the cursors at variable v are open there, at these places. -/
def lvl (ts : List JT) (row : List ByteArray) (v : Nat) (L : Nat → List RLv) (pos : Nat → Nat) (i : Nat) : List RLv := match ts[i]? with
  | some t => if v ∈ t.vars then L i ++ [(t.keys row v, pos i)] else L i
  | none => L i
theorem lvl_in {ts : List JT} {row : List ByteArray} {v : Nat} (L : Nat → List RLv) (pos : Nat → Nat) {i : Nat} {t : JT} (h : ts[i]? = some t) (hv : v ∈ t.vars) : lvl ts row v L pos i = L i ++ [(t.keys row v, pos i)] := by
  unfold lvl
  rw [h]
  exact if_pos hv
theorem lvl_out {ts : List JT} {row : List ByteArray} {v : Nat} (L : Nat → List RLv) (pos : Nat → Nat) {i : Nat} (h : i ∉ atv ts v) : lvl ts row v L pos i = L i := by
  unfold lvl
  cases ht : ts[i]? with
  | none => rfl
  | some t => exact if_neg fun hv => h ((atv_iff ts v i).2 ⟨t, ht, hv⟩)
end Go.Proofs.YtpgbenijjodoeaaGreat
namespace Go.Proofs.YtpgbenijjodoeaaGreat
open Go.ChangeShapes Go.WideShapes Go.ChangeAt Go.RowKit
structure Sta (sc : Scn) : Prop where
  jok : ∀ t ∈ sc.ts, t.Ok sc.n
  big : ∀ t ∈ sc.ts, t.vars.length ≤ 64 ∧ t.rows.length ≤ 1000000
  all : ∀ v, v < sc.n → ∃ t ∈ sc.ts, v ∈ t.vars
  nn : sc.n ≤ 1000000000000 ∧ sc.ts.length ≤ 1000000000000
  lens : sc.pcs.length = sc.ts.length ∧ sc.pts.length = sc.ts.length
  tries : ∀ W, ButS sc.T sc.w2 W → ∀ (i : Nat) (t : JT) (pt : Nat), sc.ts[i]? = some t → sc.pts[i]? = some pt → TrieV W pt t.vars.length t.rows
  walk : ∀ W, ButS sc.T sc.w2 W → W.cell? ⟨sc.pw, 0, none⟩ = some (.pointer (some ⟨sc.pm, 0, none⟩)) ∧ W.cell? ⟨sc.pw, 2, none⟩ = some (.slice (some ⟨sc.gr, 0, none⟩) sc.n sc.cr) ∧ W.cell? ⟨sc.pw, 3, none⟩ = some sc.yv
theorem Sta.of {sc : Scn} (ST : Sta sc) {i : Nat} {t : JT} (ht : sc.ts[i]? = some t) : ∃ pc pt, sc.pcs[i]? = some pc ∧ sc.pts[i]? = some pt := by
  have := (List.getElem?_eq_some_iff.1 ht).1
  have := ST.lens
  exact ⟨_, _, List.getElem?_eq_getElem (by omega), List.getElem?_eq_getElem (by omega)⟩
section
variable {sc : Scn} {J : (Nat → Prop) → World → Prop} {W : World} {row : List ByteArray} {L : Nat → List RLv} {F : Nat → Prop} {i : Nat} {t : JT} {pc : Nat}
theorem x_atEnd (ST : Sta sc) (hJ : Stable sc J) (h : WSt sc J W row L F) (ht : sc.ts[i]? = some t) (hc : sc.pcs[i]? = some pc) {base : List RLv} {l : List ByteArray} {k : Nat} (hL : L i = base ++ [(l, k)]) :
    Calls Tryz.prog 119 #[.pointer (some ⟨pc, 0, none⟩)] W fun e w' => e = .returned (.bool (decide (k = l.length))) ∧ ∃ q, w' = W.drewN q := by
  obtain ⟨_, pt, _, hp⟩ := ST.of ht
  obtain ⟨S, h1, _⟩ := h.cur hJ ht hc hp
  rw [hL] at h1
  exact k_atEnd (ST.jok t (List.mem_of_getElem? ht)).ways h1
theorem x_key (ST : Sta sc) (hJ : Stable sc J) (h : WSt sc J W row L F) (ht : sc.ts[i]? = some t) (hc : sc.pcs[i]? = some pc) {base : List RLv} {l : List ByteArray} {k : Nat} (hL : L i = base ++ [(l, k)]) {x : ByteArray} (hx : l[k]? = some x) :
    Calls Tryz.prog 125 #[.pointer (some ⟨pc, 0, none⟩)] W fun e w' => e = .returned (.string x) ∧ ∃ q, w' = W.drewN q := by
  obtain ⟨_, pt, _, hp⟩ := ST.of ht
  obtain ⟨S, h1, _⟩ := h.cur hJ ht hc hp
  rw [hL] at h1
  exact k_key (ST.jok t (List.mem_of_getElem? ht)).ways h1 (ST.tries W h.env i t pt ht hp) hx
theorem x_next (ST : Sta sc) (hJ : Stable sc J) (h : WSt sc J W row L F) (ht : sc.ts[i]? = some t) (hc : sc.pcs[i]? = some pc) {base : List RLv} {l : List ByteArray} {k : Nat} (hL : L i = base ++ [(l, k)]) (hk : k < l.length) :
    Calls Tryz.prog 127 #[.pointer (some ⟨pc, 0, none⟩)] W fun e w' => e = .returned (.bool (decide (k + 1 < l.length))) ∧ Mv sc J W row (updL L i (base ++ [(l, k + 1)])) F w' := by
  obtain ⟨_, pt, _, hp⟩ := ST.of ht
  obtain ⟨S, h1, h2⟩ := h.cur hJ ht hc hp
  rw [hL] at h1
  exact (k_next (ST.jok t (List.mem_of_getElem? ht)).ways h1 hk (ST.big t (List.mem_of_getElem? ht)).2).mono fun e w' ⟨r1, r2⟩ => ⟨r1, h2 _ _ r2⟩
theorem x_seek (ST : Sta sc) (hJ : Stable sc J) (h : WSt sc J W row L F) (ht : sc.ts[i]? = some t) (hc : sc.pcs[i]? = some pc) {base : List RLv} {l : List ByteArray} {k : Nat} (hL : L i = base ++ [(l, k)]) (hk : k < l.length) (x : ByteArray) :
    Calls Tryz.prog 126 #[.pointer (some ⟨pc, 0, none⟩), .string x] W fun e w' => ∃ j, k ≤ j ∧ j ≤ l.length ∧ (∀ q y, k ≤ q → q < j → l[q]? = some y → ltB y x = true) ∧ (∀ y, l[j]? = some y → ltB y x = false) ∧ e = .returned (.bool (decide (j < l.length))) ∧ Mv sc J W row (updL L i (base ++ [(l, j)])) F w' := by
  obtain ⟨_, pt, _, hp⟩ := ST.of ht
  obtain ⟨S, h1, h2⟩ := h.cur hJ ht hc hp
  rw [hL] at h1
  exact (k_seek x (ST.jok t (List.mem_of_getElem? ht)).ways h1 (ST.tries W h.env i t pt ht hp) hk (ST.big t (List.mem_of_getElem? ht)).2).mono fun e w' ⟨j, r1, r2, r3, r4, r5, r6⟩ => ⟨j, r1, r2, r3, r4, r5, h2 _ _ r6⟩
theorem x_seek_end (ST : Sta sc) (hJ : Stable sc J) (h : WSt sc J W row L F) (ht : sc.ts[i]? = some t) (hc : sc.pcs[i]? = some pc) {base : List RLv} {l : List ByteArray} (hL : L i = base ++ [(l, l.length)]) (x : ByteArray) :
    Calls Tryz.prog 126 #[.pointer (some ⟨pc, 0, none⟩), .string x] W fun e w' => e = .returned (.bool false) ∧ Mv sc J W row L F w' := by
  obtain ⟨_, pt, _, hp⟩ := ST.of ht
  obtain ⟨S, h1, h2⟩ := h.cur hJ ht hc hp
  rw [hL] at h1
  refine (k_seek_end x (ST.jok t (List.mem_of_getElem? ht)).ways h1 (ST.tries W h.env i t pt ht hp) (ST.big t (List.mem_of_getElem? ht)).2).mono fun e w' ⟨r1, r2⟩ => ⟨r1, ?_⟩
  have := h2 _ _ r2
  rwa [← hL, updL_id] at this
theorem x_up (ST : Sta sc) (hJ : Stable sc J) (h : WSt sc J W row L F) (ht : sc.ts[i]? = some t) (hc : sc.pcs[i]? = some pc) :
    Calls Tryz.prog 109 #[.pointer (some ⟨pc, 0, none⟩)] W fun e w' => (∃ b, e = .returned (.bool b)) ∧ Mv sc J W row (updL L i (L i).dropLast) F w' := by
  obtain ⟨_, pt, _, hp⟩ := ST.of ht
  obtain ⟨S, h1, h2⟩ := h.cur hJ ht hc hp
  exact (k_up h1).mono fun e w' ⟨r1, r2⟩ => ⟨r1, h2 _ _ r2⟩
theorem x_open (ST : Sta sc) (hJ : Stable sc J) (h : WSt sc J W row L F) (ht : sc.ts[i]? = some t) (hc : sc.pcs[i]? = some pc) {v : Nat} (hv : v ∈ t.vars) (hk : rkeys (L i) = t.pre row v) (he : rend (L i) = false) :
    Calls Tryz.prog 107 #[.pointer (some ⟨pc, 0, none⟩)] W fun e w' => (∃ b, e = .returned (.bool b)) ∧ Mv sc J W row (updL L i (L i ++ [(t.keys row v, 0)])) F w' := by
  obtain ⟨_, pt, _, hp⟩ := ST.of ht
  obtain ⟨S, h1, h2⟩ := h.cur hJ ht hc hp
  have ok := ST.jok t (List.mem_of_getElem? ht)
  have hl : (L i).length < t.vars.length := by
    have h3 := ok.pre_len row hv
    rw [← hk] at h3
    simpa [rkeys] using h3
  refine (k_open h1 (ST.tries W h.env i t pt ht hp) ok.ways (ST.big t (List.mem_of_getElem? ht)).1 (ST.big t (List.mem_of_getElem? ht)).2 ok.ne he hl).mono fun e w' ⟨r1, r2⟩ => ⟨r1, h2 _ _ ?_⟩
  rw [hk] at r2
  exact r2
theorem Mv.trans {W' W2 : World} {J2 : (Nat → Prop) → World → Prop} {row2 : List ByteArray} {L2 : Nat → List RLv} {F' : Nat → Prop} (hw : ButS F W W') (hf : ∀ b, F' b → F b ∨ W.heap.size ≤ b) (h : Mv sc J2 W' row2 L2 F' W2) : Mv sc J2 W row2 L2 F W2 := by
  obtain ⟨F2, h1, h2, h3⟩ := h
  refine ⟨F2, h1, env_step hw h2 hf, fun b hb => ?_⟩
  rcases h3 b hb with h4 | h4
  · exact hf b h4
  · exact .inr (Nat.le_trans hw.size h4)
end
end Go.Proofs.YtpgbenijjodoeaaGreat
