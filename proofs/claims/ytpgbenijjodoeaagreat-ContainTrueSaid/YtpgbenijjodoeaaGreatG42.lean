/- The walks of the join's Over and of its iterator. The walk of slices.Repeat at one base. The walk of the join's Each: a rule over one base. Printed by mk_each.py. -/
import Derived.Test.YtpgbenijjodoeaaGreatG3
import Derived.Test.YtpgbenijjodoeaaGreatG9
import Derived.Test.YtpgbenijjodoeaaGreatG40
import Derived.Test.YtpgbenijjodoeaaGreatG41
import Derived.Laws.Bits64b
namespace Go.Proofs.YtpgbenijjodoeaaGreat
open Go.ChangeShapes Go.WideShapes Go.ChangeAt Go.RowKit
open K (Term Atom Rule TermsAt LitsAt RuleV termAt litAt)
theorem MatV.later {w w' : World} {T T' : Nat → Prop} {pm n : Nat} {ts : List JT} {pts : List Nat} {p : Nat → List ByteArray → Bool} (h : MatV w T pm n ts pts p) (e : Ext w w') (hT : ∀ b, T' b → T b ∨ w.heap.size ≤ b) : MatV w' T' pm n ts pts p := by
  have up : ∀ W, ButS T' w' W → ButS T w W := fun W b => env_step ((ButS.refl T w).ext e) b hT
  obtain ⟨an, cn, h1⟩ := h.names
  obtain ⟨aT, ct, h2⟩ := h.tries
  obtain ⟨ga, ca, f, g, h3⟩ := h.at_
  obtain ⟨gt, c3, h4⟩ := h.tests
  exact ⟨h.jok, h.big, h.all, h.nn, h.lens, ⟨an, cn, fun W b => h1 W (up W b)⟩, ⟨aT, ct, fun W b => h2 W (up W b)⟩, ⟨ga, ca, f, g, fun W b => h3 W (up W b)⟩, ⟨gt, c3, fun W b => h4 W (up W b)⟩⟩
def OverPost (r : Rule) (f : RelM) (w : World) (e : Ending) (w' : World) : Prop := ∃ bx, e = .returned (.func (.func 70) #[] #[.pointer (some ⟨bx, 0, none⟩)]) ∧ Ext w w' ∧ w.heap.size ≤ bx ∧ bx < w'.heap.size ∧ ((∃ l ∈ r.body, lRows (varsR r) f l = []) ∧ w'.cell? ⟨bx, 0, none⟩ = some (.pointer none) ∨ ∃ pm ts pts, w'.cell? ⟨bx, 0, none⟩ = some (.pointer (some ⟨pm, 0, none⟩)) ∧ MatV w' (fun b => b < w.heap.size) pm (varsR r).length ts pts (fun _ _ => true) ∧ TabsOk (varsR r) f r.body ts)
theorem c_over (r : Rule) (ah : Option Addr) (nh ch : Nat) (ab : Option Addr) (nb cb : Nat) (lo bb : Nat) (f : RelM) (asl : Option Addr) (csl : Nat) (w : World) (hr : RuleV w r ah nh ch ab nb cb) (hB : BaseV w lo bb f) (hbs : BasesAt w asl nb bb) (hpos : ∀ l ∈ r.body, l.kind = 1) (hchk : checkR r = 0) (hvl : (varsR r).length ≤ 1000000) (hnb : nb ≤ 1000000) :
    Calls Tryz.prog 52 #[.agg #[.string r.head.pred, .slice ah nh ch, .slice ab nb cb], .slice asl nb csl] w (OverPost r f w) := by
  have e1 : Ext w (w.alloc (.cells #[.string r.head.pred, .slice ah nh ch, .slice ab nb cb] 27)) := ext_alloc (Below.refl _ _) _
  have MT := Lib.hid (c_matchP r ah nh ch ab nb cb lo bb f asl csl _ (hr.keep e1) (hB.ext e1) (hbs.keep e1) hpos hchk hvl hnb)
  have E1 := Lib.hid e1
  clear hr hB hbs hpos hchk hvl hnb e1
  go_enter Tryz.func52, Tryz.ntmps52
  go_wp2_with (go_at_call 69; (with_reducible refine MT.out.mono ?_); rintro e w2 ⟨e2, (⟨hn, rfl⟩ | ⟨pm, ts, pts, rfl, hm, ht⟩)⟩)
  · go_returns
    exact ⟨w2.heap.size, rfl, ext_trans E1.out (ext_trans e2 (ext_alloc (Below.refl _ _) _)), Nat.le_trans E1.out.size e2.size, by simp, .inl ⟨hn, by go_simp⟩⟩
  · go_returns
    refine ⟨w2.heap.size, rfl, ext_trans E1.out (ext_trans e2 (ext_alloc (Below.refl _ _) _)), Nat.le_trans E1.out.size e2.size, by simp, .inr ⟨pm, ts, pts, by go_simp, hm.later (ext_alloc (Below.refl _ _) _) (fun b hb => .inl (Nat.lt_of_lt_of_le hb E1.out.size)), ht⟩⟩
theorem ne_mat (b : Nat) (w : World) : (binOp .neq 123 (.pointer (some ⟨b, 0, none⟩)) (.pointer none)).run Tryz.prog w = .ok (.bool true) w := by kernel_rfl
theorem c_over1n (l bx : Nat) (w : World) (hb : w.cell? ⟨bx, 0, none⟩ = some (.pointer none)) : Calls Tryz.prog 70 #[.func (.yield l) #[] #[], .pointer (some ⟨bx, 0, none⟩)] w fun e w' => (∃ v, e = .returned v) ∧ w' = w := by
  go_enter Tryz.func70, Tryz.ntmps70
  go_wp2
  go_end0
  exact ⟨⟨_, rfl⟩, rfl⟩
theorem c_over1 (l bx pm : Nat) (w : World) (R : World → Prop) (hb : w.cell? ⟨bx, 0, none⟩ = some (.pointer (some ⟨pm, 0, none⟩))) (h : Calls Tryz.prog 71 #[.pointer (some ⟨pm, 0, none⟩), .func (.yield l) #[] #[]] w fun e w' => (∃ v, e = .returned v) ∧ R w') : Calls Tryz.prog 70 #[.func (.yield l) #[] #[], .pointer (some ⟨bx, 0, none⟩)] w fun e w' => (∃ v, e = .returned v) ∧ R w' := by
  have H := Lib.hid h
  have nm := ne_mat
  clear h
  go_enter Tryz.func70, Tryz.ntmps70
  go_wp2_with (go_at_call 71; (with_reducible refine H.out.mono ?_); rintro e w2 ⟨⟨v2, rfl⟩, r2⟩)
  go_end0
  exact ⟨⟨_, rfl⟩, r2⟩
end Go.Proofs.YtpgbenijjodoeaaGreat
namespace Go.Proofs.YtpgbenijjodoeaaGreat
open Go.ChangeShapes Go.WideShapes Go.ChangeAt Go.RowKit
theorem mask_n (n : Nat) (h : n ≤ 1000000) : bits .and .u64 (n : Int) 4294967295 = (n : Int) := by
  have h1 := bits_and_u64_nat n 4294967295 (by omega) (by omega)
  have e : n &&& 4294967295 = n % 4294967296 := Nat.and_two_pow_sub_one_eq_mod n 32
  rw [e, Nat.mod_eq_of_lt (by omega)] at h1
  exact h1
theorem c_mul64 (n : Nat) (hn : n ≤ 1000000) (w : World) : Calls Tryz.prog 91 #[.int .u64 1, .int .u64 (n : Int)] w fun e w' => e = .returned (.tuple #[.int .u64 0, .int .u64 (n : Int)]) ∧ w' = w := by
  have m1 : bits .and .u64 (1 : Int) 4294967295 = 1 := mask_n 1 (by omega)
  have w0 : IntKind.u64.wrap (0 : Int) = 0 := by decide
  have z0 : (0 : Int) / 4294967296 = 0 := by decide
  have mn := mask_n n hn
  have m0 : bits .and .u64 (0 : Int) 4294967295 = 0 := by decide
  have d0 : (n : Int) / 4294967296 = 0 := by omega
  have wn : IntKind.u64.wrap (n : Int) = (n : Int) := by rw [IntKind.wrap_u64]; omega
  go_enter Tryz.func91, Tryz.ntmps91
  go_wp2
  go_ret2
  exact ⟨rfl, rfl⟩
theorem c_mul (n : Nat) (hn : n ≤ 1000000) (w : World) : Calls Tryz.prog 72 #[.int .u64 1, .int .u64 (n : Int)] w fun e w' => e = .returned (.tuple #[.int .u64 0, .int .u64 (n : Int)]) ∧ w' = w := by
  have wn : IntKind.u64.wrap (n : Int) = (n : Int) := by rw [IntKind.wrap_u64]; omega
  have M := Lib.hid (c_mul64 n hn w)
  go_enter Tryz.func72, Tryz.ntmps72
  go_wp2_with (go_at_call 91; (with_reducible refine M.out.mono ?_); rintro e w1 ⟨rfl, hw1⟩; obtain rfl := hw1.symm)
  go_ret2
  exact ⟨rfl, rfl⟩
theorem info_base : (Tryz.prog.info? 35).map (fun i => (i.zero, i.size, i.bytes)) = some (some (.pointer none), 1, 8) := by kernel_rfl
def RepL (bb n k : Nat) : List Value := List.replicate k (.pointer (some ⟨bb, 0, none⟩)) ++ List.replicate (n - k) (.pointer none)
theorem own_at {w : World} {base g n c : Nat} {e : TypeId} {xs : List Value} (h : w.ownsRow base e 1 (.slice (some ⟨g, 0, none⟩) n c) n xs) (j : Nat) (v : Value) (hj : xs[j]? = some v) : w.cell? ⟨g, j, none⟩ = some v := by
  have := h.cells (g := g) rfl j v hj
  rwa [Addr.add_lit, Nat.zero_add] at this
theorem repL_put {bb n k c : Nat} (h : k + c ≤ n) : putL (RepL bb n k) k (List.replicate c (.pointer (some ⟨bb, 0, none⟩))) = RepL bb n (k + c) := by
  have hl : (RepL bb n k).length = n := by unfold RepL; simp; omega
  rw [putL_eq _ _ _ (by rw [hl, List.length_replicate]; omega), List.length_replicate]
  unfold RepL
  rw [List.take_left' (by simp), List.drop_append, List.drop_of_length_le (by simp), List.nil_append, List.length_replicate, List.drop_replicate, List.replicate_append_replicate]
  congr 2
  omega
def ReptPost (bb n : Nat) (w : World) (e : Ending) (w' : World) : Prop := ∃ g, e = .returned (.slice (some ⟨g, 0, none⟩) n n) ∧ (∀ i, i < n → w'.cell? ⟨g, i, none⟩ = some (.pointer (some ⟨bb, 0, none⟩))) ∧ Ext w w'
set_option maxRecDepth 100000 in
set_option maxHeartbeats 4000000 in
theorem c_repeat (bb n b0 : Nat) (w : World) (h : w.cell? ⟨b0, 0, none⟩ = some (.pointer (some ⟨bb, 0, none⟩))) (hn : n ≤ 1000000) : Calls Tryz.prog 53 #[.slice (some ⟨b0, 0, none⟩) 1 1, .int .i64 (n : Int)] w (ReptPost bb n w) := by
  obtain ⟨i0, hi, hz0, hz1, hz2⟩ := info_parts info_base
  obtain ⟨wm, hmk, om0, gm⟩ := run_make_full (P := Tryz.prog) w w.heap.size 108 35 i0 (.pointer none) 1 Tryz.underlying108 hi hz0 hz1 .i64 .i64 n (by rw [hz2]; omega) (by unfold maxLen; omega) (Nat.le_refl _)
  have om : wm.ownsRow w.heap.size 35 1 (.slice (some ⟨w.heap.size, 0, none⟩) n n) n (RepL bb n 0) := by
    have e : (madeCells (Value.pointer none).cells (n * 1)).toList = RepL bb n 0 := by
      unfold RepL
      rw [Nat.mul_one]
      apply List.ext_getElem
      · simp [madeCells]
      · intro i h1 h2
        simp [madeCells, Value.cells, Nat.mod_one]
    rw [← e]
    exact om0
  have em : Ext w wm := ⟨gm.os, gm.tape, gm.output, gm.size, fun i hi => gm.block i hi (by simp)⟩
  have ML := Lib.hid (c_mul n hn w)
  have wn : IntKind.u64.wrap (n : Int) = (n : Int) := by rw [IntKind.wrap_u64]; omega
  have wi : IntKind.i64.wrap (n : Int) = (n : Int) := by rw [IntKind.wrap_i64]; omega
  have hge : ¬ ((n : Int) < 0) := by omega
  have hbig : ¬ ((9223372036854775807 : Int) < (n : Int)) := by omega
  have hsz : (Tryz.prog.info? 35).map (·.size) = some 1 := by rw [hi]; simp [hz1]
  have hbw : b0 < w.heap.size := World.block_lt_of_cell? w ⟨b0, 0, none⟩ h
  obtain ⟨g, hg⟩ : ∃ g, w.heap.size = g := ⟨_, rfl⟩
  have HG := Lib.hid hg
  rw [hg] at om hmk
  obtain ⟨c0, hc0⟩ : ∃ c0, c0 = min n 1 := ⟨_, rfl⟩
  have cp0 : ∀ ty, (Builtin.copy_ #[108, 108] ty #[.slice (some ⟨g, 0, none⟩) n n, .slice (some ⟨b0, 0, none⟩) 1 1]).run Tryz.prog wm = .ok (goInt (List.replicate c0 (Value.pointer (some ⟨bb, 0, none⟩))).length) (wm.setCells g 0 (List.replicate c0 (.pointer (some ⟨bb, 0, none⟩)))) := fun ty =>
    run_copy_cells wm _ _ ty 35 g 0 n n ⟨b0, 0, none⟩ 1 1 (List.replicate c0 (.pointer (some ⟨bb, 0, none⟩))) Tryz.underlying108 hsz (by rw [List.length_replicate, hc0]; exact Nat.min_comm _ _) (fun j v hj => by
      have hjl := (List.getElem?_eq_some_iff.1 hj).1
      rw [List.length_replicate] at hjl
      rw [List.getElem?_replicate, if_pos hjl] at hj
      cases hj
      obtain rfl : j = 0 := by omega
      rw [Addr.add_lit]
      exact keep em h) (fun j hj => by have hcz := hc0; rw [List.length_replicate] at hj; rw [own_at om (0 + j) (.pointer none) (by unfold RepL; rw [List.getElem?_append_right (by simp), List.length_replicate, List.getElem?_replicate, if_pos (by omega)])]; rfl) (fun j _ => om.frozenAt _) (fun v hv => by rw [(List.mem_replicate.1 hv).2]; rfl)
  obtain ⟨os1, og1⟩ := own_setCells (List.replicate c0 (.pointer (some ⟨bb, 0, none⟩))) wm 0 _ om
  rw [repL_put (by omega), Nat.zero_add] at os1
  have E1 : Hid (Ext w (wm.setCells g 0 (List.replicate c0 (.pointer (some ⟨bb, 0, none⟩))))) := ext_ownB em og1 (fun b e => by cases e; omega)
  have OS1 := Lib.hid os1
  have HC0 := Lib.hid hc0
  clear os1 og1 om om0 gm h hbw hc0
  go_enter Tryz.func53, Tryz.ntmps53
  go_wp2_with (first
    | (go_at_call 72; (with_reducible refine ML.out.mono ?_); rintro e w1 ⟨rfl, hw1⟩; obtain rfl := hw1.symm)
    | (at_builtin; refine wpList_copy_runI _ rfl _ _ 108 108 rfl _ _ rfl rfl (cp0 _) ?_))
  have hgl : goInt (List.replicate c0 (Value.pointer (some ⟨bb, 0, none⟩))).length = .int .i64 (c0 : Nat) := by rw [List.length_replicate]; rfl
  go_loopw [8] (fun v wj => ∃ k : Nat, v = .int .i64 (k : Nat) ∧ k ≤ n ∧ (n = 0 ∨ 1 ≤ k) ∧ wj.ownsRow g 35 1 (.slice (some ⟨g, 0, none⟩) n n) n (RepL bb n k) ∧ Ext w wj) (fun v _ => n - (intOf v).toNat)
  case atStart => exact ⟨c0, by first | rfl | (simp [goInt]), by have := HC0.out; omega, by have := HC0.out; omega, OS1.out, E1.out⟩
  case round =>
    obtain ⟨k, rfl, hk, hk1, hown, hE⟩ := hrel
    have OW := Lib.hid hown
    have HE := Lib.hid hE
    clear hown hE
    by_cases hlt : k < n
    · have hki : (k : Int) < (n : Int) := by omega
      obtain ⟨c, hc⟩ : ∃ c, c = min (n - k) k := ⟨_, rfl⟩
      have hcpos : 1 ≤ c := by omega
      have hckn : k + c ≤ n := by omega
      have hcp : ∀ ty, (Builtin.copy_ #[108, 108] ty #[.slice (some ⟨g, k, none⟩) (n - k) (n - k), .slice (some ⟨g, 0, none⟩) k n]).run Tryz.prog wr.drew = .ok (goInt (List.replicate c (Value.pointer (some ⟨bb, 0, none⟩))).length) (wr.drew.setCells g k (List.replicate c (.pointer (some ⟨bb, 0, none⟩)))) := fun ty =>
        run_copy_cells wr.drew _ _ ty 35 g k (n - k) (n - k) ⟨g, 0, none⟩ k n (List.replicate c (.pointer (some ⟨bb, 0, none⟩))) Tryz.underlying108 hsz (by rw [List.length_replicate, hc]; first | rfl | exact Nat.min_comm _ _) (fun j v hj => by
          have hjl := (List.getElem?_eq_some_iff.1 hj).1
          rw [List.length_replicate] at hjl
          rw [List.getElem?_replicate, if_pos hjl] at hj
          cases hj
          rw [Addr.add_lit, Nat.zero_add]
          exact own_at OW.out.drew j _ (by unfold RepL; rw [List.getElem?_append_left (by simp; omega), List.getElem?_replicate, if_pos (by omega)])) (fun j hj => by
          rw [List.length_replicate] at hj
          rw [own_at OW.out.drew (k + j) (.pointer none) (by unfold RepL; rw [List.getElem?_append_right (by simp), List.length_replicate, List.getElem?_replicate, if_pos (by omega)])]
          rfl) (fun j _ => OW.out.drew.frozenAt _) (fun v hv => by rw [(List.mem_replicate.1 hv).2]; rfl)
      obtain ⟨os2, og2⟩ := own_setCells (List.replicate c (.pointer (some ⟨bb, 0, none⟩))) wr.drew k _ OW.out.drew
      rw [repL_put hckn] at os2
      have OS2 := Lib.hid os2
      have CP : Hid (1 ≤ c ∧ k + c ≤ n ∧ k < n) := ⟨hcpos, hckn, hlt⟩
      have E2 : Hid (Ext w (wr.drew.setCells g k (List.replicate c (.pointer (some ⟨bb, 0, none⟩))))) := ext_ownB (ext_trans HE.out (ext_drew (Below.refl _ _))) og2 (fun b e => by cases e; have := HG.out; omega)
      have hkc : IntKind.i64.wrap ((k : Int) + (c : Int)) = (k : Int) + (c : Int) := by rw [IntKind.wrap_i64]; omega
      have hgc : goInt (List.replicate c (Value.pointer (some ⟨bb, 0, none⟩))).length = .int .i64 (c : Nat) := by rw [List.length_replicate]; rfl
      have hk0 : (0 : Int) ≤ (k : Int) := by omega
      have hkn : (k : Int) ≤ (n : Int) := by omega
      have hnk : ¬ (n = k) := by omega
      clear os2 og2 hcpos hckn hc
      have mixed : Tryz.prog.follows .mixedOrders = true := by kernel_rfl
      go_wp2_with fail
      go_region_law_o (refine step_copy_runI rfl _ _ 108 108 rfl _ _ (by simp [Act.eval, Act.put]) (by simp [Act.eval, Act.put]) (hcp _) ?_)
      all_goals
        go_wp2
        go_roundw
        case rel => exact ⟨_, _, _, _, _, _, _, _, _, _, _, _, _, _, ⟨k + c, by first | rfl | (simp [goInt]), CP.out.2.1, .inr (by have := CP.out; omega), OS2.out, E2.out⟩, rfl⟩
        case measure => have := CP.out; change n - ((k : Int) + (c : Int)).toNat < n - ((k : Int)).toNat; omega
    · obtain rfl : k = n := by omega
      have hge2 : ¬ (k : Int) < (k : Int) := by omega
      go_wp2
      go_returns
      refine ⟨g, rfl, fun i hi => own_at OW.out i _ ?_, HE.out⟩
      unfold RepL
      rw [List.getElem?_append_left (by simpa using hi), List.getElem?_replicate, if_pos hi]
end Go.Proofs.YtpgbenijjodoeaaGreat
namespace Go.Proofs.YtpgbenijjodoeaaGreat
open Go.ChangeShapes Go.WideShapes Go.ChangeAt Go.RowKit
open K (Term Atom Rule TermsAt LitsAt RuleV termAt litAt)
set_option linter.unusedSimpArgs false
def JEachPost (r : Rule) (f : RelM) (w : World) (e : Ending) (w' : World) : Prop := ∃ bx, e = .returned (.func (.func 70) #[] #[.pointer (some ⟨bx, 0, none⟩)]) ∧ Ext w w' ∧ w.heap.size ≤ bx ∧ bx < w'.heap.size ∧ ((∃ l ∈ r.body, lRows (varsR r) f l = []) ∧ w'.cell? ⟨bx, 0, none⟩ = some (.pointer none) ∨ ∃ pm ts pts, w'.cell? ⟨bx, 0, none⟩ = some (.pointer (some ⟨pm, 0, none⟩)) ∧ MatV w' (fun b => b < w.heap.size) pm (varsR r).length ts pts (fun _ _ => true) ∧ TabsOk (varsR r) f r.body ts)
set_option maxRecDepth 100000 in
set_option maxHeartbeats 4000000 in
theorem c_each (r : Rule) (ah : Option Addr) (nh ch : Nat) (ab : Option Addr) (nb cb : Nat) (lo bb : Nat) (f : RelM) (w : World) (hr : RuleV w r ah nh ch ab nb cb) (hB : BaseV w lo bb f) (hpos : ∀ l ∈ r.body, l.kind = 1) (hchk : checkR r = 0) (hvl : (varsR r).length ≤ 1000000) (hnb : nb ≤ 1000000) :
    Calls Tryz.prog 28 #[.agg #[.string r.head.pred, .slice ah nh ch, .slice ab nb cb], .pointer (some ⟨bb, 0, none⟩)] w (JEachPost r f w) := by
  obtain ⟨p2, hp2⟩ : ∃ p2, w.heap.size = p2 := ⟨_, rfl⟩
  have mixed : Tryz.prog.follows .mixedOrders = true := by kernel_rfl
  have EW1 : Ext w (w.alloc (.cells #[.string r.head.pred, .slice ah nh ch, .slice ab nb cb] 27)) := ext_alloc (Below.refl _ _) _
  go_enter Tryz.func28, Tryz.ntmps28
  go_wp2
  have D0 : (w.alloc (.cells #[.string r.head.pred, .slice ah nh ch, .slice ab nb cb] 27)).cell? ⟨p2, 0, none⟩ = some (.string r.head.pred) := by rw [← hp2]; go_simp
  have D1 : (w.alloc (.cells #[.string r.head.pred, .slice ah nh ch, .slice ab nb cb] 27)).cell? ⟨p2, 1, none⟩ = some (.slice ah nh ch) := by rw [← hp2]; go_simp
  have D2 : (w.alloc (.cells #[.string r.head.pred, .slice ah nh ch, .slice ab nb cb] 27)).cell? ⟨p2, 2, none⟩ = some (.slice ab nb cb) := by rw [← hp2]; go_simp
  generalize w.alloc (.cells #[.string r.head.pred, .slice ah nh ch, .slice ab nb cb] 27) = W1 at EW1 D0 D1 D2 ⊢
  try rw [hp2]
  have EWD : Ext w W1.drew := ext_trans EW1 (ext_drew (Below.refl _ _))
  obtain ⟨W2, hW2⟩ : ∃ W2, W2 = (W1.alloc (.cells #[.pointer (some ⟨bb, 0, none⟩)] 35)).drew := ⟨_, rfl⟩
  have EW2 : Ext W1.drew W2 := by rw [hW2]; exact ext_alloc (Below.refl _ W1.drew) _
  have hz2 : W2.cell? ⟨W1.heap.size, 0, none⟩ = some (.pointer (some ⟨bb, 0, none⟩)) := by
    have hh := heap_alloc_new W1.drew (.cells #[.pointer (some ⟨bb, 0, none⟩)] 35)
    rw [show W1.drew.alloc (.cells #[.pointer (some ⟨bb, 0, none⟩)] 35) = W2 from hW2.symm, show W1.drew.heap.size = W1.heap.size from rfl] at hh
    simp [World.cell?, hh]
  have EA : Hid (Ext W1 W2) := ext_trans (ext_drew (Below.refl _ _)) EW2
  have RP := Lib.hid (c_repeat bb nb W1.heap.size W2 hz2 hnb)
  have OVQ : Hid (∀ g w6, (∀ i, i < nb → w6.cell? ⟨g, i, none⟩ = some (.pointer (some ⟨bb, 0, none⟩))) → Ext W2 w6 → Calls Tryz.prog 52 #[.agg #[.string r.head.pred, .slice ah nh ch, .slice ab nb cb], .slice (some ⟨g, 0, none⟩) nb nb] w6 (OverPost r f w6)) := fun g w6 h6 e6 => by
    have E6 : Ext w w6 := ext_trans EWD (ext_trans EW2 e6)
    exact c_over r ah nh ch ab nb cb lo bb f (some ⟨g, 0, none⟩) nb w6 (hr.keep E6) (hB.ext E6) (fun i hi => ⟨g, 0, rfl, by rw [Nat.zero_add]; exact h6 i hi⟩) hpos hchk hvl hnb
  have EWH := Lib.hid (ext_trans EWD EW2)
  have PS := Lib.hid hp2
  clear hr hB hpos hchk hvl hnb EWD EW1 EW2 hz2 hp2
  refine region_last (fun w' => Ext W1 w') 8 mixed (ext_drew (Below.refl _ _)) (fun hS0 => ?_)
  refine wpAnyG_take (i := 0) (oi := { dst := some 5, op := Go.Op.load 27 (Go.Operand.tmp 2), type := 27, pos := "join.go:103", after := #[], guard := none }) (v := ?_) rfl (by kernel_rfl) (by kernel_rfl) (by kernel_rfl) (by kernel_rfl) (fun _ _ _ h => h) (Or.inl ⟨by rfl, ?_⟩) (by assumption) ?_
  rotate_left
  focus (intro wS hS; have s1 := keep hS D0; have s2 := keep hS D1; have s3 := keep hS D2; go_simp; try with_reducible rfl)
  try simp only [Act.put, List.setIfInBounds_toArray, List.set_cons_zero, List.set_cons_succ]
  refine wpAnyG_take (i := 1) (oi := { dst := some 6, op := Go.Op.move (Go.Operand.tmp 1), type := 35, pos := "join.go:103", after := #[], guard := none }) (v := ?_) rfl (by kernel_rfl) (by kernel_rfl) (by kernel_rfl) (by kernel_rfl) (fun _ _ _ h => h) (Or.inl ⟨by rfl, ?_⟩) (by assumption) ?_
  rotate_left
  focus (intro wS hS; go_simp; try with_reducible rfl)
  try simp only [Act.put, List.setIfInBounds_toArray, List.set_cons_zero, List.set_cons_succ]
  refine wpAnyG_take (i := 3) (oi := { dst := some 8, op := Go.Op.fieldAddr 27 (Go.Operand.tmp 2) 1, type := 0, pos := "join.go:103", after := #[], guard := none }) (v := ?_) rfl (by kernel_rfl) (by kernel_rfl) (by kernel_rfl) (by kernel_rfl) (fun _ _ _ h => h) (Or.inl ⟨by rfl, ?_⟩) (by assumption) ?_
  rotate_left
  focus (intro wS hS; go_simp; try with_reducible rfl)
  try simp only [Act.put, List.setIfInBounds_toArray, List.set_cons_zero, List.set_cons_succ]
  refine wpAnyG_take (i := 4) (oi := { dst := some 9, op := Go.Op.load 25 (Go.Operand.tmp 8), type := 25, pos := "join.go:103", after := #[{ on := 3, ground := Go.Ground.data }], guard := none }) (v := ?_) rfl (by kernel_rfl) (by kernel_rfl) (by kernel_rfl) (by kernel_rfl) (fun _ _ _ h => h) (Or.inl ⟨by rfl, ?_⟩) (by assumption) ?_
  rotate_left
  focus (intro wS hS; have s1 := keep hS D0; have s2 := keep hS D1; have s3 := keep hS D2; go_simp; try with_reducible rfl)
  try simp only [Act.put, List.setIfInBounds_toArray, List.set_cons_zero, List.set_cons_succ]
  refine wpAnyG_take (i := 5) (oi := { dst := some 10, op := Go.Op.call { callee := Go.Callee.builtin Go.Builtin.len, args := #[Go.Operand.tmp 9], argTypes := #[25] }, type := 3, pos := "join.go:103", after := #[{ on := 4, ground := Go.Ground.data }], guard := none }) (v := ?_) rfl (by kernel_rfl) (by kernel_rfl) (by kernel_rfl) (by kernel_rfl) (fun _ _ _ h => h) (Or.inl ⟨by rfl, ?_⟩) (by assumption) ?_
  rotate_left
  focus (intro wS hS; go_simp; try with_reducible rfl)
  try simp only [Act.put, List.setIfInBounds_toArray, List.set_cons_zero, List.set_cons_succ]
  refine wpAnyG_one (i := 2) (by kernel_rfl) rfl (fun K hK => ?_)
  go_simp
  rw [← hW2]
  clear hW2
  refine hK.out _ _ (fun hne => ?_) ?_
  · exact EA.out
  clear hK K
  try simp only [Act.put, List.setIfInBounds_toArray, List.set_cons_zero, List.set_cons_succ]
  refine wpAnyG_one (i := 6) (by kernel_rfl) rfl (fun K hK => ?_)
  go_simp
  go_at_call 53; (with_reducible refine RP.out.mono ?_); rintro e w6 ⟨g6, rfl, hg6, e6⟩
  refine hK.out _ _ (fun hne => ?_) ?_
  · exact ext_trans EA.out e6
  clear hK K
  try simp only [Act.put, List.setIfInBounds_toArray, List.set_cons_zero, List.set_cons_succ]
  refine wpAnyG_one (i := 7) (by kernel_rfl) rfl (fun K hK => ?_)
  have OV := OVQ.out g6 w6 hg6 e6
  go_simp
  go_at_call 52; (with_reducible refine OV.mono ?_); rintro e w7 ⟨bx, rfl, e7, q7⟩
  refine hK.out _ _ (fun hne => ?_) ?_
  · exact ext_trans EA.out (ext_trans e6 e7)
  clear hK K
  try simp only [Act.put, List.setIfInBounds_toArray, List.set_cons_zero, List.set_cons_succ]
  refine wpAnyG_one (i := 8) (by kernel_rfl) rfl (fun K hK => ?_)
  go_simp
  refine hK.out _ _ (fun hne => ?_) ?_
  · exact absurd rfl hne
  clear hK K
  try simp only [Act.put, List.setIfInBounds_toArray, List.set_cons_zero, List.set_cons_succ]
  refine wpAnyG_done (by kernel_rfl) ?_ _
  go_wp2
  go_returns
  have EWR := ext_trans EWH.out e6
  refine ⟨bx, rfl, ext_trans EWR e7, Nat.le_trans EWR.size q7.1, q7.2.1, ?_⟩
  rcases q7.2.2 with q | ⟨pm, ts, pts, q1, q2, q3⟩
  · exact .inl q
  · exact .inr ⟨pm, ts, pts, q1, q2.later (Below.refl _ _) (fun b hb => .inl (Nat.lt_of_lt_of_le hb EWR.size)), q3⟩
end Go.Proofs.YtpgbenijjodoeaaGreat
