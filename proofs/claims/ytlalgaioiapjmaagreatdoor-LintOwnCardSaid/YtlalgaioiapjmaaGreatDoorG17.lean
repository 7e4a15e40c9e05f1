/- The walk of graph.found: the part of each node. -/
import Derived.Test.YtlalgaioiapjmaaGreatDoorG16
namespace Go.Proofs.YtlalgaioiapjmaaGreatDoor
open Go.ChangeShapes Go.WideShapes Go.ChangeAt Go.RowKit
open K (WSt WInv mu stepW runW fromW fuelW meetS closeS foundGo foundW adj getD_set)
def stI (es : List K.Edge) (n i : Nat) : WSt := foundGo (adj es) n ((List.range n).take i) (nil0 n)
theorem foundGo_app (g : Nat → List Nat) (n : Nat) : ∀ (l1 l2 : List Nat) (s : WSt), foundGo g n (l1 ++ l2) s = foundGo g n l2 (foundGo g n l1 s)
  | [], _, _ => rfl
  | _ :: l1, l2, _ => foundGo_app g n l1 l2 _
theorem stI_step (es : List K.Edge) {n i : Nat} (hi : i < n) : stI es n (i + 1) = if (stI es n i).met.getD i 0 = 0 then fromW (adj es) n (stI es n i) i else stI es n i := by
  unfold stI
  rw [take_at (x := i) (by rw [List.getElem?_range hi]), foundGo_app]
  rfl
theorem stI_all (es : List K.Edge) (n : Nat) : stI es n n = foundW n es := by
  unfold stI foundW
  rw [List.take_of_length_le (by simp)]
  rfl
theorem stI_inv {es : List K.Edge} {n : Nat} (hg : ∀ v, v < n → ∀ t ∈ adj es v, t < n) : ∀ i, i ≤ n → FInv n (adj es) i (stI es n i)
  | 0, _ => by
    have e : stI es n 0 = nil0 n := rfl
    rw [e]
    exact FInv.zero n _
  | i + 1, h => by
    have ih := stI_inv hg i (by omega)
    rw [stI_step es (by omega)]
    split
    · rename_i h0
      exact ih.from hg (by omega) h0
    · rename_i h0
      exact ih.skip h0
theorem adj_ok {es : List K.Edge} {n : Nat} (hok : ∀ e ∈ es, 0 ≤ e.src ∧ e.src < (n : Int) ∧ 0 ≤ e.dst ∧ e.dst < (n : Int)) (v : Nat) (t : Nat) (ht : t ∈ adj es v) : t < n := by
  unfold K.adj at ht
  obtain ⟨e, he, rfl⟩ := List.mem_map.1 ht
  have := hok e (List.mem_filter.1 he).1
  omega
def nil1 (n i : Nat) : WSt := { nil0 n with part := List.replicate i none ++ List.replicate (n - i) (some 0) }
def FdSt (n : Nat) (g : Nat → List Nat) (w : World) (p : Value) (s : WSt) (wc : World) : Prop :=
  ∃ B2 wb gb mb lb pb, p = .pointer (some ⟨wb, 0, none⟩) ∧ WalkV B2 n wb gb mb lb pb s wc ∧ NetAt (WS B2 wb mb lb pb) gb n g wc ∧ (∀ b, WS B2 wb mb lb pb b → w.heap.size ≤ b) ∧ Ext w wc
theorem found_start {w wc : World} {g : Nat → List Nat} {n gb mb lb pb wb B0 : Nat} {C : Nat → Prop} (p1 : NetV wc C B0 gb n g) (pC : ∀ b, C b → w.heap.size ≤ b ∧ b < wb ∧ b ≠ mb ∧ b ≠ lb ∧ b ≠ pb)
    (hm : Blk wc mb 3 (List.replicate n (.int .i64 0))) (hl : Blk wc lb 3 (List.replicate n (.int .i64 0))) (hp : Blk wc pb 3 (List.replicate n (.int .i64 0)))
    (ht : Blk wc wb 154 [.slice (some ⟨gb, 0, none⟩) n n, .slice (some ⟨mb, 0, none⟩) n n, .slice (some ⟨lb, 0, none⟩) n n, .slice (some ⟨pb, 0, none⟩) n n, .slice none 0 0, .int .i64 0, .int .i64 0])
    (hs : w.heap.size ≤ mb ∧ w.heap.size ≤ lb ∧ w.heap.size ≤ pb ∧ w.heap.size ≤ wb) (hi : mb < wb ∧ lb < wb ∧ pb < wb) (hne : mb ≠ lb ∧ mb ≠ pb ∧ lb ≠ pb) (e : Ext w wc) : FdSt n g w (.pointer (some ⟨wb, 0, none⟩)) (nil1 n 0) wc := by
  refine ⟨wb + 1, wb, gb, mb, lb, pb, rfl, ⟨by omega, hne, ht.lt, ⟨none, 0, ht, World.ownsRow_nil _ _ _ _⟩, ?_, ?_, ?_⟩, p1.netAt (fun b hb hS => ?_), fun b hb => ?_, e⟩
  · rw [show (nil1 n 0).met.map numV = List.replicate n (.int .i64 0) by simp [nil1, nil0]]; exact hm
  · rw [show (nil1 n 0).low.map numV = List.replicate n (.int .i64 0) by simp [nil1, nil0]]; exact hl
  · rw [show (nil1 n 0).part.map optV = List.replicate n (.int .i64 0) by simp [nil1, optV]]; exact hp
  · have := pC b hb
    unfold WS at hS
    omega
  · unfold WS at hb
    omega
theorem nil1_set {n k : Nat} (hk : k < n) : { nil1 n k with part := (nil1 n k).part.set k none } = nil1 n (k + 1) := by
  have e : (List.replicate k (none : Option Nat) ++ List.replicate (n - k) (some 0)).set k none = List.replicate (k + 1) none ++ List.replicate (n - (k + 1)) (some 0) := by
    rw [List.set_append_right _ _ (by simp)]
    simp only [List.length_replicate, Nat.sub_self]
    rw [show n - k = (n - (k + 1)) + 1 by omega, List.replicate_succ, List.set_cons_zero, List.replicate_succ', List.append_assoc]
    rfl
  show ({ nil0 n with part := (List.replicate k (none : Option Nat) ++ List.replicate (n - k) (some 0)).set k none } : WSt) = _
  rw [e]
  rfl
theorem WalkV.partSet {B2 n wb gb mb lb pb : Nat} {s : WSt} {w : World} (h : WalkV B2 n wb gb mb lb pb s w) (i : Nat) (x : Option Nat) : WalkV B2 n wb gb mb lb pb { s with part := s.part.set i x } (w.setCell ⟨pb, i, none⟩ (optV x)) := by
  obtain ⟨a, c, T, R⟩ := h.top
  have hwp : wb ≠ pb := T.ty.ne h.part.ty (by decide)
  refine ⟨h.hi, h.ne, by simpa using h.sz, ⟨a, c, T.other (p := ⟨pb, i, none⟩) hwp _, own_set_other R (.inr (fun e => ?_)) _⟩, h.met.other (p := ⟨pb, i, none⟩) h.ne.2.1 _, h.low.other (p := ⟨pb, i, none⟩) h.ne.2.2 _, ?_⟩
  · have := (R.lt pb e).1
    have := h.hi
    omega
  · show Blk _ pb _ ((s.part.set i x).map optV)
    rw [← map_set']
    exact h.part.set i _
theorem Blk.up {w : World} {b : Nat} {t : TypeId} {cs : List Value} (h : Blk w b t cs) (o : Obj) : Blk (w.alloc o) b t cs := h.ext (ext_alloc (Below.refl _ _) o)
theorem Blk.at {w : World} {b n : Nat} {t : TypeId} {z : Value} (h : b = w.heap.size) : Blk (w.alloc (.cells (Array.replicate n z) t)) b t (List.replicate n z) := by
  rw [h]
  exact Blk.made w n z t
theorem Blk.top {w : World} {b : Nat} {t : TypeId} {cs : Array Value} (h : b = w.heap.size) : Blk (w.alloc (.cells cs t)) b t cs.toList := by
  rw [h]
  unfold Blk
  rw [heap_alloc_new]
set_option maxRecDepth 100000 in
set_option maxHeartbeats 8000000 in
theorem c_found (es : List K.Edge) (a : Option Addr) (m cap n : Nat) (w : World) (he : EdgesAt w a m es) (hn : n ≤ 65536) (hok : ∀ e ∈ es, 0 ≤ e.src ∧ e.src < (n : Int) ∧ 0 ≤ e.dst ∧ e.dst < (n : Int)) :
    Calls Tryz.prog 66 #[.int .i64 (n : Int), .slice a m cap] w fun e w' => ∃ pb, e = .returned (.tuple #[.slice (some ⟨pb, 0, none⟩) n n, .int .i64 ((foundW n es).all : Int)]) ∧ w.heap.size ≤ pb ∧ Blk w' pb 3 ((foundW n es).part.map optV) ∧ Ext w w' := by
  obtain ⟨i0, hi, hz0, hz1, hz2⟩ := info_parts info_int
  have MK : ∀ W : World, (Instr.makeSlice 52 (.int .i64 (n : Int)) (.int .i64 (n : Int))).run Tryz.prog W = .ok (.slice (some ⟨W.heap.size, 0, none⟩) n n) (W.alloc (.cells (Array.replicate n (.int .i64 0)) 3)) := fun W => mkS W _ _ i0 _ Tryz.underlying52 hi hz0 hz1 rfl n (by rw [hz2]; omega) (by unfold maxLen; omega)
  have NC : Hid (∀ W, Ext w W → Calls Tryz.prog 100 #[.int .i64 (n : Int), .slice a m cap, .bool false] W (NetPost es n W)) := fun W E => c_netOf es a m cap n W (he.keep E) hn hok
  have HO := Lib.hid hok
  have HEL : Hid (es.length ≤ 1048576) := by show es.length ≤ _; rw [he.2.1]; exact he.1
  clear hi hz0 hz1 hz2 he hok
  go_enter Tryz.func66, Tryz.ntmps66
  go_wp2
  go_cut [6] (fun p wc => FdSt n (adj es) w p (nil1 n 0) wc)
  case first =>
    go_region_held3 (fun w' => Ext w w') (first | (with_reducible assumption) | (exact ext_alloc (by with_reducible assumption) _) | (exact ext_drew (by with_reducible assumption)) | (with_reducible refine ext_after (by with_reducible assumption) ?_; with_reducible assumption) | go_grown | fail)
      (first
        | (go_at_call 100; (with_reducible refine (NC.out _ (by with_reducible assumption)).mono ?_); rintro e1 w1 ⟨gb, C, rfl, p1, p2, p3⟩)
        | fail)
    all_goals
      go_wp2
      go_meet
      have hsz := p3.size
      simp at hsz
      refine found_start (C := C) (ListsAt.ext p1 ?_) (fun b hb => ?_) ?_ ?_ ?_ (Blk.top (by simp)) ?_ ?_ ?_ (by with_reducible assumption)
      · repeat (first | exact Below.refl _ _ | refine ext_alloc ?_ _)
      · have := p2 b hb
        simp at this
        omega
      · repeat (first | (refine Blk.at ?_; simp; done) | (refine Blk.up ?_ _) | (refine Blk.ext ?_ p3) | fail)
      · repeat (first | (refine Blk.at ?_; simp; done) | (refine Blk.up ?_ _) | (refine Blk.ext ?_ p3) | fail)
      · repeat (first | (refine Blk.at ?_; simp; done) | (refine Blk.up ?_ _) | (refine Blk.ext ?_ p3) | fail)
      all_goals omega
  case rest =>
    obtain ⟨B2, wb, gb, mb, lb, pb, rfl, V, N, LO, E⟩ := hcut
    have HN := Lib.hid N
    have HL := Lib.hid LO
    have HE := Lib.hid E
    obtain ⟨a5, c5, T5, R5⟩ := V.top
    have x3 : wc.cell? ⟨wb, 3, none⟩ = some (.slice (some ⟨pb, 0, none⟩) n n) := T5.cell (i := 3) rfl
    clear N LO E T5 R5
    go_upto_region 3 with (fail)
    go_loopw [25] (fun v wr => ∃ k : Nat, k ≤ n ∧ v = .int .i64 (k : Int) ∧ WalkV B2 n wb gb mb lb pb (nil1 n k) wr ∧ ButS (WS B2 wb mb lb pb) wc wr) (fun v _ => n - (intOf v).toNat)
    case atStart => exact ⟨0, Nat.zero_le _, rfl, V, ButS.refl _ _⟩
    case round =>
      clear x3 V MK
      obtain ⟨k, hk, rfl, V, B⟩ := hrel
      obtain ⟨a5, c5, T5, R5⟩ := V.top
      have HV := Lib.hid V
      have HB := Lib.hid B
      by_cases hlt : k < n
      · have hki : (k : Int) < (n : Int) := by omega
        have x3 : wr.cell? ⟨wb, 3, none⟩ = some (.slice (some ⟨pb, 0, none⟩) n n) := T5.cell (i := 3) rfl
        have l1 : wr.cell? ⟨pb, k, none⟩ = some (optV ((nil1 n k).part.getD k none)) := V.part.cell (map_at optV (by simp [nil1]; omega))
        have l2 : wr.frozen? ⟨pb, k, none⟩ = false := V.part.free k
        obtain ⟨ov, hov⟩ : ∃ ov, optV ((nil1 n k).part.getD k none) = ov := ⟨_, rfl⟩
        rw [hov] at l1
        clear V B T5 R5 hov
        go_wp2
        go_roundw
        case rel =>
          refine ⟨k + 1, by omega, by go_num, ?_, HB.out.set (.inl (.inr (.inr (.inr (.inr rfl))))) _ _⟩
          rw [← nil1_set hlt]
          exact HV.out.partSet k none
        case measure => simp [intOf]; omega
      · have hge : ¬ (k : Int) < (n : Int) := by omega
        obtain rfl : n = k := by omega
        have V0 : Hid (WalkV B2 n wb gb mb lb pb (stI es n 0) wr) := by
          have e : nil1 n n = stI es n 0 := by
            show nil1 n n = nil0 n
            unfold nil1
            rw [Nat.sub_self, List.replicate_zero, List.append_nil]
            rfl
          show WalkV B2 n wb gb mb lb pb (stI es n 0) wr
          rw [← e]
          exact HV.out
        have HG : Hid (∀ v, v < n → ∀ t ∈ adj es v, t < n) := fun v _ t ht => adj_ok HO.out v t ht
        have HI : Hid (∀ i, i ≤ n → FInv n (adj es) i (stI es n i)) := fun i hi => stI_inv HG.out i hi
        have HF : Hid (fuelW (adj es) n ≤ 1048576 + n * 2) := by
          show fuelW (adj es) n ≤ 1048576 + n * 2
          have := fuel_le es n
          have := HEL.out
          omega
        clear T5 R5 V B HV
        go_wp2
        go_loopw [36] (fun v wr => ∃ k : Nat, k ≤ n ∧ v = .int .i64 (k : Int) ∧ WalkV B2 n wb gb mb lb pb (stI es n k) wr ∧ ButS (WS B2 wb mb lb pb) wc wr) (fun v _ => n - (intOf v).toNat)
        case atStart => exact ⟨0, Nat.zero_le _, rfl, V0.out, HB.out⟩
        case round =>
          clear V0 HB
          obtain ⟨k, hk, rfl, V, B⟩ := hrel
          obtain ⟨a5, c5, T5, R5⟩ := V.top
          have HV := Lib.hid V
          have HB := Lib.hid B
          have FI := HI.out k hk
          by_cases hlt : k < n
          · have hki : (k : Int) < (n : Int) := by omega
            have x1 : wr.cell? ⟨wb, 1, none⟩ = some (.slice (some ⟨mb, 0, none⟩) n n) := T5.cell (i := 1) rfl
            obtain ⟨zm, hzm⟩ : ∃ z, (stI es n k).met.getD k 0 = z := ⟨_, rfl⟩
            have l1 : wr.cell? ⟨mb, k, none⟩ = some (numV zm) := by rw [← hzm]; exact V.met.cell (map_at numV (by rw [FI.lm]; exact hlt))
            have STEP := stI_step es hlt
            rw [hzm] at STEP
            have HST := Lib.hid STEP
            obtain ⟨q, hq⟩ : ∃ q, decide (zm = 0) = q := ⟨_, rfl⟩
            have hqi : ((zm : Int) == 0) = q := by
              rw [← hq, Bool.eq_iff_iff, beq_iff_eq, decide_eq_true_eq]
              omega
            cases q with
            | false =>
              have hz : ¬ zm = 0 := of_decide_eq_false hq
              have e9 := HST.out
              rw [if_neg hz] at e9
              have HE9 := Lib.hid e9
              clear V B T5 R5 FI hzm STEP hq hz e9
              go_wp2
              go_roundw
              case rel => exact ⟨k + 1, by omega, by go_num, by rw [HE9.out]; exact HV.out, HB.out⟩
              case measure => simp [intOf]; omega
            | true =>
              have hz : zm = 0 := of_decide_eq_true hq
              have e9 := HST.out
              rw [if_pos hz] at e9
              have HE9 := Lib.hid e9
              obtain ⟨w1, w2⟩ := FI.begin hlt (hzm.trans hz)
              have hfu := HF.out
              have hkf : k * (fuelW (adj es) n + 1) ≤ 65536 * 1200000 := Nat.mul_le_mul (by omega) (by omega)
              have m1 := FI.b1
              have m2 := FI.b2
              have FR := c_fromG B2 n wb gb mb lb pb (adj es) (stI es n k) k ((stI es n k).met0 + 1) 900000000000 wr V (HN.out.keep B) HG.out (fun v => by have := adj_len es v; have := HEL.out; omega) hlt hn FI.lm FI.ll FI.opn (by omega) (by omega)
                ⟨w1, w2, rfl, by show (stI es n k).met0 + 1 + fuelW (adj es) n ≤ _; omega, by show (stI es n k).all + fuelW (adj es) n ≤ _; omega⟩
              rw [← e9] at FR
              have HFR := Lib.hid FR
              clear V B T5 R5 FI hzm STEP hq hz e9 FR w1 w2 hfu hkf m1 m2
              go_wp2_with (first | (go_at_call 101; (with_reducible refine HFR.out.mono ?_); rintro e w1 ⟨rfl, p1, p2⟩; have P1 := Lib.hid (And.intro p1 p2); clear p1 p2) | fail)
              go_roundw
              case rel => exact ⟨k + 1, by omega, by go_num, P1.out.1, HB.out.trans P1.out.2⟩
              case measure => simp [intOf]; omega
          · have hge : ¬ (k : Int) < (n : Int) := by omega
            obtain rfl : n = k := by omega
            have x3 : wr.cell? ⟨wb, 3, none⟩ = some (.slice (some ⟨pb, 0, none⟩) n n) := T5.cell (i := 3) rfl
            have x6 : wr.cell? ⟨wb, 6, none⟩ = some (.int .i64 ((stI es n n).all : Int)) := T5.cell (i := 6) rfl
            clear V B T5 R5 FI
            go_wp2
            go_quiet (fail)
            go_wp2
            go_returns
            have hall := stI_all es n
            refine ⟨pb, by rw [← hall]; rfl, HL.out pb (.inr (.inr (.inr (.inr rfl)))), by rw [← hall]; exact HV.out.part.ext (ext_drewN (Below.refl _ _) _), ?_⟩
            refine ext_trans ?_ (ext_drewN (Below.refl _ _) _)
            have hb := HB.out
            have he := HE.out
            exact ⟨hb.os.trans he.os, hb.tape.trans he.tape, hb.output.trans he.output, Nat.le_trans he.size hb.size, fun b hb2 => (hb.block b (Nat.lt_of_lt_of_le hb2 he.size) (fun q => by have := HL.out b q; omega)).trans (he.block b hb2)⟩
end Go.Proofs.YtlalgaioiapjmaaGreatDoor
