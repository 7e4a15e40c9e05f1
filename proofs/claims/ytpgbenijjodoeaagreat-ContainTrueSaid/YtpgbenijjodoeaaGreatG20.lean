/- The walk of Build. -/
import Derived.Test.YtpgbenijjodoeaaGreatG19
namespace Go.Proofs.YtpgbenijjodoeaaGreat
open Go.ChangeShapes Go.WideShapes Go.ChangeAt Go.RowKit
/-- A trie of these ways, as it lies. -/
structure TrieV (w : World) (pt d : Nat) (ways : List (List ByteArray)) : Prop where
  top : ∃ g, w.cell? ⟨pt, 0, none⟩ = some (.slice (some ⟨g, 0, none⟩) d d) ∧ ∀ i, i < d → ∃ ka kc fa fc, w.cell? ⟨g, i * 2, none⟩ = some (.slice ka (wid ways i ways.length) kc) ∧ w.cell? ⟨g, i * 2 + 1, none⟩ = some (.slice fa (wid ways i ways.length + 1) fc) ∧ StrsAt w ka (wid ways i ways.length) (keysM ways i ways.length) ∧ (ka = none → wid ways i ways.length = 0 ∧ kc = 0) ∧ wid ways i ways.length ≤ kc ∧ IntsAt w fa (wid ways i ways.length + 1) ((fromM ways i ways.length ++ [wid ways (i + 1) ways.length]).map natV)
  c1 : w.cell? ⟨pt, 1, none⟩ = some (.int .i64 (ways.length : Int))
  c2 : w.cell? ⟨pt, 2, none⟩ = some (.bool true)
theorem TrieV.ext {w w' : World} {pt d : Nat} {ways : List (List ByteArray)} (h : TrieV w pt d ways) (e : Ext w w') : TrieV w' pt d ways := by
  obtain ⟨⟨g, h1, h2⟩, h3, h4⟩ := h
  refine ⟨⟨g, keep e h1, fun i hi => ?_⟩, keep e h3, keep e h4⟩
  obtain ⟨ka, kc, fa, fc, a1, a2, a3, a4, a5, a6⟩ := h2 i hi
  exact ⟨ka, kc, fa, fc, keep e a1, keep e a2, a3.keep e, a4, a5, a6.keep e⟩
theorem levs_done {lo pt g : Nat} {ls : List Lev} {w : World} {ways : List (List ByteArray)} {d : Nat} (h : LevsAt lo w g ls) (ht : w.heap[pt]? = some (.cells #[.slice (some ⟨g, 0, none⟩) ls.length ls.length, .int .i64 (ways.length : Int), .bool true] 184 (0, 0))) (he : LevEnd ways d d ls) : TrieV w pt d ways := by
  obtain ⟨c0, c1, c2⟩ : w.cell? ⟨pt, 0, none⟩ = some (.slice (some ⟨g, 0, none⟩) ls.length ls.length) ∧ w.cell? ⟨pt, 1, none⟩ = some (.int .i64 (ways.length : Int)) ∧ w.cell? ⟨pt, 2, none⟩ = some (.bool true) := by simp [World.cell?, ht]
  rw [he.1] at c0
  refine ⟨⟨g, c0, fun i hi => ?_⟩, c1, c2⟩
  obtain ⟨l, hl⟩ : ∃ l, ls[i]? = some l := ⟨_, List.getElem?_eq_getElem (by rw [he.1]; exact hi)⟩
  obtain ⟨e1, e2⟩ := he.2 i l hl
  rw [if_pos hi] at e2
  have k1 := h.ks i l hl
  have f1 := h.fs i l hl
  obtain ⟨x1, x2⟩ := h.cell hl
  obtain ⟨ka, kc, ek, hkc⟩ := own_form k1
  obtain ⟨fa, fc, ef, _⟩ := own_form f1
  rw [ek] at k1 x1
  rw [ef] at f1 x2
  have l1 : l.ks.length = wid ways i ways.length := by rw [e1, keysM_len]
  have l2 : l.fs.length = wid ways i ways.length + 1 := by rw [e2, List.length_map, List.length_append, fromM_len]; rfl
  have k2 := own_strs k1 (own_len k1).1
  have f2 := own_ints f1 (own_len f1).1
  have k3 := (cap_of_own k1).2
  rw [l1, e1] at k2
  rw [l2, e2] at f2
  rw [l1] at x1 hkc k3
  rw [l2] at x2
  exact ⟨ka, kc, fa, fc, x1, x2, k2, k3, hkc, f2⟩
theorem TrSt.done {w0 : World} {pt g : Nat} {ls : List Lev} {w : World} {ways : List (List ByteArray)} {d : Nat} (h : TrSt w0 pt g ways.length ls w) (he : LevEnd ways d d ls) : TrieV w pt d ways := levs_done h.lev h.top he
/-- The trie stands whatever becomes of what lay ahead of it. -/
theorem TrSt.doneB {w0 : World} {pt g : Nat} {ls : List Lev} {w : World} {ways : List (List ByteArray)} {d : Nat} (h : TrSt w0 pt g ways.length ls w) (he : LevEnd ways d d ls) (B : Nat) (hB : B ≤ w0.heap.size) : ∀ w2, ButS (fun b => b < B) w w2 → TrieV w2 pt d ways := fun w2 hb => by
  have hp := (Array.getElem?_eq_some_iff.1 h.top).1
  have hpt := h.pt
  exact levs_done (lo := w0.heap.size) ⟨hb.own h.lev.row (fun b e => by have := (h.lev.row.lt b e).1; omega), fun i l hl => hb.own (h.lev.ks i l hl) (fun b e => by have := ((h.lev.ks i l hl).lt b e).1; omega), fun i l hl => hb.own (h.lev.fs i l hl) (fun b e => by have := ((h.lev.fs i l hl).lt b e).1; omega), h.lev.kd, h.lev.fd⟩ ((hb.block pt hp (by omega)).trans h.top) he
def BuildPostL (ar : Nat) (os : List Int) (rs : List (List ByteArray)) (w : World) (e : Ending) (w' : World) : Prop :=
  (¬ orderOk ar os ∧ e = .returned (.tuple #[.pointer none, .int .i64 2]) ∧ w' = w) ∨
  (orderOk ar os ∧ ∃ pt ways, e = .returned (.tuple #[.pointer (some ⟨pt, 0, none⟩), .int .i64 0]) ∧ w.heap.size ≤ pt ∧ pt < w'.heap.size ∧ (∀ w2, ButS (fun b => b < w.heap.size) w' w2 → TrieV w2 pt os.length ways) ∧ Ext w w' ∧ Ways os.length ways ∧ (∀ x, x ∈ ways ↔ ∃ r ∈ rs, projM os r = x) ∧ ways.length ≤ rs.length)
theorem info_lev : (Tryz.prog.info? 187).map (fun i => (i.zero, i.size, i.bytes)) = some (some (.agg #[.slice none 0 0, .slice none 0 0]), 2, 48) := by kernel_rfl
theorem info_int : (Tryz.prog.info? 3).map (fun i => (i.zero, i.size, i.bytes)) = some (some (.int .i64 0), 1, 8) := by kernel_rfl
def lev0 : Lev := ⟨.slice none 0 0, .slice none 0 0, [], []⟩
theorem made_lev (d : Nat) : (madeCells (Value.agg #[.slice none 0 0, .slice none 0 0]).cells (d * 2)).toList = (List.replicate d lev0).flatMap levV := by
  have e : (List.replicate d lev0).flatMap levV = List.replicate (d * 2) (.slice none 0 0) := by
    induction d with
    | zero => rfl
    | succ d ih => rw [List.replicate_succ, List.flatMap_cons, ih, Nat.succ_mul, Nat.add_comm, ← List.replicate_append_replicate]; rfl
  rw [e]
  apply List.ext_getElem
  · simp [madeCells]
  · intro i h1 h2
    have hc : (Value.agg #[.slice none 0 0, .slice none 0 0]).cells = #[.slice none 0 0, .slice none 0 0] := by kernel_rfl
    have h3 : i % 2 = 0 ∨ i % 2 = 1 := by omega
    simp [madeCells, hc]
    rcases h3 with h3 | h3 <;> simp [h3]
/-- One number more, at a step of a region that draws its order. -/
theorem step_push_int {ops : Array Oper} {o : Oper} {a : Act} {K : Act → World → Prop} {Q : Exit → Act → World → Prop} {E : Prop} (W0 : World) (z : Int) (base : Nat) (fa : Option Addr) (n fc : Nat) (l : List Int) (hown : W0.ownsRow base 3 1 (.slice fa n fc) n (l.map intV)) (hn : n ≤ 1000000) (hbase : base ≤ W0.heap.size) (hgd : o.guard = none) (s x : Operand)
    (ho : o.op = .call { callee := .builtin .append, args := #[s, x], argTypes := #[58, 58] }) (hs : a.eval s = .slice fa n fc) (hx : a.eval x = .slice (some ⟨W0.heap.size, 0, none⟩) 1 1)
    (h : ∀ g cap w', w'.ownsRow base 3 1 (.slice (some ⟨g, 0, none⟩) (n + 1) cap) (n + 1) (l.map intV ++ [intV z]) → (W0.alloc (.cells #[.int .i64 z] 3)).grownBy w' (Value.slice fa n fc).ownBlock → ((Value.slice fa n fc).ownBlock = some g ∨ g = (W0.alloc (.cells #[.int .i64 z] 3)).heap.size) → K (a.put o.dst (.slice (some ⟨g, 0, none⟩) (n + 1) cap)) w') :
    if Region.wanted o (yielded ops a.tmps) = true then Oper.wp Tryz.prog o a (W0.alloc (.cells #[.int .i64 z] 3)) K Q else E := by
  obtain ⟨n0, hn0, nz0, nz1, nz2⟩ := info_parts info_int
  exact step_append_lies _ hgd s x 58 ho base 3 n0 (.int .i64 0) 1 8 Tryz.underlying58 hn0 nz0 nz1 nz2 rfl (by decide) _ n (l.map intV) hs (hown.alloc _) ⟨W0.heap.size, 0, none⟩ 1 1 [.int .i64 z] hx rfl (news1 W0 _ _) (by simp [Value.oneCell']) (by omega) (by unfold maxLen; omega) (by omega) (by simp; omega) _ rfl fun g cap w1 hown1 hgrow hat _ => h g cap w1 hown1 hgrow hat
theorem wrapS {k : Nat} (hk : k ≤ 1000000) : IntKind.i64.wrap ((k : Int) + 1) = (k : Int) + 1 := by
  rw [IntKind.wrap_i64]
  omega
theorem int_zero (n : Nat) : ((n : Int) == 0) = decide (n = 0) := by
  by_cases h : n = 0 <;> simp [h]
set_option maxRecDepth 100000 in
set_option maxHeartbeats 4000000 in
theorem c_buildL (lo pb ar : Nat) (rs : List (List ByteArray)) (os : List Int) (ao : Option Addr) (d co : Nat) (w : World) (h : RowsV w lo pb ar rs) (hn : rs.length ≤ 1000000) (hr : ∀ r ∈ rs, r.length = ar) (har : ar ≤ 64) (ho : IntsAt w ao d os) (hdc : d ≤ co) :
    Calls Tryz.prog 101 #[.pointer (some ⟨pb, 0, none⟩), .slice ao d co] w (BuildPostL ar os rs w) := by
  have H := Lib.hid h
  have HR := Lib.hid hr
  have HO := Lib.hid ho
  have hdm : d ≤ 9223372036854775807 := ho.1
  have hol : os.length = d := ho.2.1
  have HOL := Lib.hid hol
  clear h hr ho hol
  go_enter Tryz.func101, Tryz.ntmps101
  go_wp2
  go_loopw [21] (fun v wj => ∃ k : Nat, k ≤ d ∧ v = .int .i64 (k : Int) ∧ wj = w ∧ ∀ (i : Nat) (c : Int), i < k → os[i]? = some c → 0 ≤ c ∧ c < (ar : Int) ∧ ¬ c ∈ os.take i) (fun v _ => d - (intOf v).toNat)
  case atStart => exact ⟨0, by omega, rfl, rfl, fun i c hi => absurd hi (Nat.not_lt_zero _)⟩
  case round =>
    obtain ⟨k, hk, rfl, rfl, hq⟩ := hrel
    have HQ := Lib.hid hq
    clear hq
    by_cases hlt : k < d
    · have hki : (k : Int) < (d : Int) := by omega
      obtain ⟨c, b1, o1, hx, rfl, h1⟩ := HO.out.2.at hlt
      have HX := Lib.hid hx
      have g1 : wr.cell? ⟨b1, o1 + k, none⟩ = some (.int .i64 c) := by simpa [intAt] using h1
      have OT := Lib.hid (HO.out.take (k := k) hk)
      have hkco : (k : Int) ≤ (co : Int) := by omega
      have hkd : (k : Int) ≤ (d : Int) := by omega
      obtain ⟨q, hq⟩ : ∃ q, decide (c ∈ os.take k) = q := ⟨_, rfl⟩
      have CT : Hid (Calls Tryz.prog 114 #[.slice (some ⟨b1, o1, none⟩) k co, .int .i64 c] wr fun e w' => e = .returned (.bool q) ∧ w' = wr) := by
        rw [← hq]
        exact c_contains _ _ _ _ _ _ OT.out
      have HC := Lib.hid hq
      have BAD : Hid (¬ (0 ≤ c ∧ c < (ar : Int) ∧ q = false) → BuildPostL ar os rs wr (.returned (.tuple #[.pointer none, .int .i64 2])) wr) := fun hb => .inl ⟨fun hok => hb (by
        have := hok k c HX.out
        refine ⟨this.1, this.2.1, ?_⟩
        rw [← HC.out]
        simpa using this.2.2), rfl, rfl⟩
      clear hx h1 hq
      by_cases hc0 : c < 0
      · have BD := Lib.hid (BAD.out (fun h => by omega))
        clear BAD
        go_wp2_with (first
          | (go_at_call 113; (with_reducible refine (c_arity lo pb ar rs _ H.out).mono ?_); rintro e w1 ⟨rfl, hw1⟩; obtain rfl := hw1.symm)
          | (go_at_call 114; (with_reducible refine CT.out.mono ?_); rintro e w1 ⟨rfl, hw1⟩; obtain rfl := hw1.symm))
        go_ret2
        exact BD.out
      · by_cases hca : c < (ar : Int)
        · have hca2 : ¬ (ar : Int) ≤ c := by omega
          cases q with
          | true =>
            have BD := Lib.hid (BAD.out (fun h => by simp at h))
            clear BAD
            go_wp2_with (first
              | (go_at_call 113; (with_reducible refine (c_arity lo pb ar rs _ H.out).mono ?_); rintro e w1 ⟨rfl, hw1⟩; obtain rfl := hw1.symm)
              | (go_at_call 114; (with_reducible refine CT.out.mono ?_); rintro e w1 ⟨rfl, hw1⟩; obtain rfl := hw1.symm))
            go_ret2
            exact BD.out
          | false =>
            have NX : Hid (∀ (i : Nat) (c : Int), i < k + 1 → os[i]? = some c → 0 ≤ c ∧ c < (ar : Int) ∧ ¬ c ∈ os.take i) := fun i c' hi hc' => by
              rcases Nat.lt_or_ge i k with h1 | h1
              · exact HQ.out i c' h1 hc'
              · obtain rfl : i = k := by omega
                have := HX.out.symm.trans hc'
                cases this
                exact ⟨by omega, hca, by have := HC.out; simpa using this⟩
            clear BAD
            go_wp2_with (first
              | (go_at_call 113; (with_reducible refine (c_arity lo pb ar rs _ H.out).mono ?_); rintro e w1 ⟨rfl, hw1⟩; obtain rfl := hw1.symm)
              | (go_at_call 114; (with_reducible refine CT.out.mono ?_); rintro e w1 ⟨rfl, hw1⟩; obtain rfl := hw1.symm))
            go_roundw
            case rel => exact ⟨k + 1, by omega, by go_num, by first | trivial | rfl, NX.out⟩
            case measure => simp [intOf]; omega
        · have hca2 : (ar : Int) ≤ c := by omega
          have BD := Lib.hid (BAD.out (fun h => hca h.2.1))
          clear BAD
          go_wp2_with (first
            | (go_at_call 113; (with_reducible refine (c_arity lo pb ar rs _ H.out).mono ?_); rintro e w1 ⟨rfl, hw1⟩; obtain rfl := hw1.symm)
            | (go_at_call 114; (with_reducible refine CT.out.mono ?_); rintro e w1 ⟨rfl, hw1⟩; obtain rfl := hw1.symm))
          go_ret2
          exact BD.out
    · obtain rfl : k = d := by omega
      obtain ⟨wb, rfl⟩ : ∃ wb : World, wb = wr := ⟨_, rfl⟩
      have hok : orderOk ar os := fun i c hc => HQ.out i c (by have := (List.getElem?_eq_some_iff.1 hc).1; have := HOL.out; omega) hc
      have hd64 : k ≤ 64 := by have := hok.len; have := HOL.out; omega
      have PR := Lib.hid (c_projected lo pb ar rs os ao k co wb H.out hn HR.out har HO.out (fun c hc => by
        obtain ⟨i, hi⟩ := List.mem_iff_getElem?.1 hc
        have := hok i c hi
        exact ⟨this.1, this.2.1⟩) hd64)
      have HOK := Lib.hid hok
      obtain ⟨l0, hl0, lz0, lz1, lz2⟩ := info_parts info_lev
      obtain ⟨j0, hj, yz0, yz1, yz2⟩ := info_parts info_str
      obtain ⟨n0, hn0, nz0, nz1, nz2⟩ := info_parts info_int
      have hge : ¬ (k : Int) < (k : Int) := by omega
      have MK : Hid (∀ w2 : World, ∃ wm, (Instr.makeSlice 182 (.int .i64 (k : Int)) (.int .i64 (k : Int))).run Tryz.prog w2 = .ok (.slice (some ⟨w2.heap.size, 0, none⟩) k k) wm ∧ wm.ownsRow w2.heap.size 187 2 (.slice (some ⟨w2.heap.size, 0, none⟩) k k) k (madeCells (Value.agg #[.slice none 0 0, .slice none 0 0]).cells (k * 2)).toList ∧ w2.grownBy wm none) := fun w2 => run_make_full (P := Tryz.prog) w2 w2.heap.size 182 187 l0 (.agg #[.slice none 0 0, .slice none 0 0]) 2 Tryz.underlying182 hl0 lz0 lz1 .i64 .i64 k (by rw [lz2]; omega) (by unfold maxLen; omega) (Nat.le_refl _)
      clear hok HQ
      go_wp2_with (first
        | (go_at_call 115; (with_reducible refine PR.out.mono ?_); rintro e w2 ⟨a, c, us, ways, rfl, r2, at2, e2, hw2, hm2, hl2⟩; obtain ⟨wm, hm, om, gm⟩ := MK.out w2))
      refine wp_gen (fun W3 hW3 => ?_)
      have hol := HOL.out
      rw [hol] at hw2
      have HW2 := Lib.hid hw2
      have HM2 := Lib.hid hm2
      have HL2 := Lib.hid hl2
      have E2 := Lib.hid e2
      have TS0 : Hid (TrSt w2 wm.heap.size w2.heap.size ways.length (List.replicate k lev0) W3) := by
        have em : Ext w2 wm := ⟨gm.os, gm.tape, gm.output, gm.size, fun i hi => gm.block i hi (by simp)⟩
        have hget : ∀ {i : Nat} {l : Lev}, (List.replicate k lev0)[i]? = some l → l = lev0 := fun {i l} hl => by
          rw [List.getElem?_replicate] at hl
          split at hl
          · cases hl; rfl
          · cases hl
        rw [made_lev] at om
        refine ⟨by rw [hW3]; exact ext_alloc em _, ⟨?_, fun i l hl => ?_, fun i l hl => ?_, fun i j a b _ ha _ => ?_, fun i j a b _ ha _ => ?_⟩, ?_, gm.size⟩
        · rw [List.length_replicate, hW3]
          exact om.alloc _
        · rw [hget hl]
          exact World.ownsRow_nil _ _ _ _
        · rw [hget hl]
          exact World.ownsRow_nil _ _ _ _
        · rw [hget ha]
          exact .inl rfl
        · rw [hget ha]
          exact .inl rfl
        · rw [List.length_replicate, hW3]
          exact heap_alloc_new wm _
      have WAY : Hid (∀ n, n < ways.length → ∃ g7 a7 c7, a = some ⟨g7, 0, none⟩ ∧ w2.cell? ⟨g7, n, none⟩ = some (.slice a7 k c7) ∧ StrsAt w2 a7 k (wayAt ways n)) := fun n hn7 => by
        obtain ⟨x1, x2⟩ := HW2.out.at hn7
        obtain ⟨v, hv⟩ : ∃ v, us[n]? = some v := ⟨_, List.getElem?_eq_getElem (by rw [at2.1]; exact hn7)⟩
        have ow := at2.2 n _ v x1 hv
        obtain ⟨a7, c7, rfl, _⟩ := own_form ow
        have st := own_strs ow (own_len ow).1
        rw [x2] at st hv
        obtain ⟨g7, p7, e7, _⟩ := own_formS r2 (by omega)
        cases e7
        have := r2.cells (g := g7) rfl n _ hv
        rw [Addr.add_lit, Nat.zero_add] at this
        exact ⟨g7, a7, c7, rfl, this, st⟩
      have hNm : ways.length ≤ 1000000 := by omega
      clear hW3 hm om gm r2 at2 e2 hw2 hm2 hl2 MK PR hol
      go_loopw [54] (fun v wj => ∃ n : Nat, n ≤ ways.length ∧ v = .int .i64 (n : Int) ∧ ∃ ls, TrSt w2 wm.heap.size w2.heap.size ways.length ls wj ∧ LevOk ways k (fun _ => n) ls) (fun v _ => ways.length - (intOf v).toNat)
      case atStart => exact ⟨0, by omega, rfl, _, TS0.out, List.length_replicate .., fun i l hl => by
        rw [List.getElem?_replicate] at hl
        split at hl
        · cases hl
          exact ⟨rfl, rfl⟩
        · cases hl⟩
      case round =>
        obtain ⟨n, hnN, rfl, ls, ts, lv⟩ := hrel
        have TS := Lib.hid ts
        have LV := Lib.hid lv
        clear ts lv
        obtain ⟨wo, rfl⟩ : ∃ wo : World, wo = wr := ⟨_, rfl⟩
        by_cases hlt : n < ways.length
        · have hni : (n : Int) < (ways.length : Int) := by omega
          obtain ⟨g7, a7, c7, rfl, h7, s7⟩ := WAY.out n hlt
          have g1 := keep TS.out.old h7
          have S7 := Lib.hid s7
          clear h7 s7
          go_wp2
          go_loopw [12, 63] (fun v12 v63 wj => ∃ i : Nat, i ≤ k ∧ v63 = .int .i64 (i : Int) ∧ v12 = .bool (freshT ways i n) ∧ ∃ ls, TrSt w2 wm.heap.size w2.heap.size ways.length ls wj ∧ LevOk ways k (cntI i n) ls) (fun _ v63 _ => k - (intOf v63).toNat)
          case atStart => exact ⟨0, by omega, rfl, by rw [freshT_zero, int_zero], ls, TS.out, LV.out.start⟩
          case round =>
            obtain ⟨i, hik, rfl, rfl, ls, ts, lv⟩ := hrel
            have TS := Lib.hid ts
            have LV := Lib.hid lv
            clear ts lv
            by_cases hil : i < k
            · have hii : (i : Int) < (k : Int) := by omega
              obtain ⟨x, b1, o1, hx, rfl, h1⟩ := S7.out.2.at hil
              have HX := Lib.hid hx
              have g2 : wr.cell? ⟨b1, o1 + i, none⟩ = some (.string x) := keep TS.out.old (by simpa [strAt] using h1)
              clear hx h1
              have hKX : Hid (keyAt ways i n = x) := by show _ = _; unfold keyAt; rw [HX.out]; rfl
              go_upto_region 18 with (fail)
              go_cut [12] (fun v12 wc => wc = wr ∧ v12 = .bool (fresh ways i n))
              case first =>
                obtain ⟨fl, hfl⟩ : ∃ fl, freshT ways i n = fl := ⟨_, rfl⟩
                rw [hfl]
                cases fl with
                | true =>
                  go_wp2
                  go_meet
                  exact ⟨rfl, by rw [freshT_on hfl]⟩
                | false =>
                  have hn0 : n ≠ 0 := by
                    rintro rfl
                    simp [freshT] at hfl
                  obtain ⟨m, rfl⟩ : ∃ m, n = m + 1 := ⟨n - 1, by omega⟩
                  obtain ⟨g8, a8, c8, e8, h8, s8⟩ := WAY.out m (by omega)
                  cases e8
                  obtain ⟨y, b3, o3, hy, rfl, h3⟩ := s8.2.at hil
                  have g3 := keep TS.out.old h8
                  have g4 : wr.cell? ⟨b3, o3 + i, none⟩ = some (.string y) := keep TS.out.old (by simpa [strAt] using h3)
                  have hst : fresh ways i (m + 1) = !decide (y = x) := freshT_step (m := m + 1) (by simpa using hy) HX.out hn0 hfl
                  obtain ⟨q, hq⟩ : ∃ q, (y.toList == x.toList) = q := ⟨_, rfl⟩
                  have hq2 : decide (y = x) = q := by rw [← hq, beq_bytes]
                  rw [hq2] at hst
                  have HST := Lib.hid hst
                  have m1 : IntKind.i64.wrap (m : Int) = (m : Int) := wrapP (by omega)
                  have m2 : (m : Int) < (ways.length : Int) := by omega
                  clear hst hq2 hfl hn0
                  go_wp2
                  go_meet
                  exact ⟨rfl, by rw [HST.out]⟩
              case rest =>
                obtain ⟨rfl, rfl⟩ := hcut
                obtain ⟨fb, hfb⟩ : ∃ fb, fresh ways i n = fb := ⟨_, rfl⟩
                rw [hfb]
                cases fb with
                | false =>
                  have LS := Lib.hid (LV.out.skip hfb)
                  have HFT : Hid (freshT ways (i + 1) n = false) := hfb
                  clear hfb
                  go_wp2
                  go_roundw
                  case rel => exact ⟨i + 1, by omega, by go_num, by rw [HFT.out], ls, TS.out, LS.out⟩
                  case measure => simp [intOf]; omega
                | true =>
                  have HFT : Hid (freshT ways (i + 1) n = true) := hfb
                  obtain ⟨⟨kv, fv, ks, fs⟩, hl, hks, hfs⟩ := LV.out.at hil
                  have HL := Lib.hid hl
                  have HKS := Lib.hid hks
                  have HFS := Lib.hid hfs
                  have lsl : ls.length = k := LV.out.1
                  obtain ⟨c0, _, _⟩ := TS.out.cells
                  rw [lsl] at c0
                  obtain ⟨k1, f1⟩ := TS.out.lev.cell hl
                  have kr := TS.out.lev.ks i _ hl
                  have fr := TS.out.lev.fs i _ hl
                  dsimp only at k1 f1 kr fr hks hfs
                  obtain ⟨ka, kc, rfl, _⟩ := own_form kr
                  obtain ⟨fa, fc, rfl, _⟩ := own_form fr
                  have KR := Lib.hid (kr.alloc (.cells #[.string x] 9))
                  have kl : ks.length ≤ 1000000 := by rw [hks, keysM_len]; have := wid_le ways i n; omega
                  have flen : fs.length ≤ 1000000 := by rw [hfs, List.length_map, fromM_len]; have := wid_le ways i n; omega
                  have hsz3 := TS.out.old.size
                  have n3 := Lib.hid (news1 wc (.string x) 9)
                  have NX := Lib.hid (LV.out.next HW2.out hil hnN)
                  have LP := Lib.hid (fun kv fv => LV.out.push (kv := kv) (fv := fv) hl hfb)
                  have LSL := Lib.hid lsl
                  clear hl hks hfs kr fr hfb
                  have KX := Lib.hid hKX.out
                  go_upto_region 21 with (fail)
                  go_upto_region 22 with (at_builtin; refine wpList_append_one _ rfl _ _ 46 rfl w2.heap.size 9 j0 (.string ⟨#[]⟩) 1 16 Tryz.underlying46 hj yz0 yz1 yz2 rfl (by decide) ka ks.length kc (ks.map Value.string) rfl KR.out ⟨wc.heap.size, 0, none⟩ 1 [.string x] rfl rfl n3.out (by simp [Value.oneCell']) (by unfold maxLen; omega) (by omega) (by simp; omega) ?_; intro g9 c9 w9 q1 q2 q3 q4; obtain ⟨p1, p2, p3, p4⟩ := TS.out.pushK (v' := .slice (some ⟨g9, 0, none⟩) (ks.length + 1) c9) HL.out q1 q2 (fun b e => by cases e; exact q3))
                  refine wp_gen (fun W5 hW5 => ?_)
                  have TS5 : Hid (TrSt w2 wm.heap.size w2.heap.size ways.length (ls.set i { kv := .slice (some ⟨g9, 0, none⟩) (ks.length + 1) c9, fv := .slice fa fs.length fc, ks := ks ++ [x], fs := fs }) W5.drew) := by show TrSt _ _ _ _ _ _; rw [hW5]; exact p4.ext (ext_drew (Below.refl _ _))
                  have hl5 : (ls.set i { kv := .slice (some ⟨g9, 0, none⟩) (ks.length + 1) c9, fv := .slice fa fs.length fc, ks := ks ++ [x], fs := fs })[i]? = some { kv := .slice (some ⟨g9, 0, none⟩) (ks.length + 1) c9, fv := .slice fa fs.length fc, ks := ks ++ [x], fs := fs } := List.getElem?_set_self (by rw [LSL.out]; exact hil)
                  have HL5 := Lib.hid hl5
                  have d0 := TS5.out.cells.1
                  rw [List.length_set, LSL.out] at d0
                  have f5 := (TS5.out.lev.cell hl5).2
                  dsimp only at f5
                  have FR5 := Lib.hid (TS5.out.lev.fs i _ hl5)
                  have ec : (i : Int) + 1 = ((i + 1 : Nat) : Int) := by omega
                  obtain ⟨z, hz⟩ : ∃ z, natV (wid ways (i + 1) n) = z := ⟨_, rfl⟩
                  have HZ := Lib.hid hz
                  have WD : Hid (Calls Tryz.prog 116 #[.pointer (some ⟨wm.heap.size, 0, none⟩), .int .i64 ((i : Int) + 1), .int .i64 (n : Int)] W5.drew fun e w' => e = .returned (.int .i64 z) ∧ w' = W5.drew) := by
                    rw [← HZ.out, ec]
                    exact TS5.out.width (fun l hl => NX.out.1 l (by rwa [List.getElem?_set_ne (by omega)] at hl)) (fun hl => NX.out.2 (by rwa [List.length_set] at hl))
                  have hsz5 : Hid (w2.heap.size ≤ W5.drew.heap.size) := TS5.out.old.size
                  clear hW5 p1 p2 p3 p4 q1 q2 q3 q4 k1 f1 c0 hz hl5 ec
                  have f6 : (W5.alloc (.cells #[.int .i64 z] 3)).cell? ⟨w2.heap.size, i * 2 + 1, none⟩ = some (.slice fa fs.length fc) := keep (ext_alloc (Below.refl _ W5) _) (show W5.cell? _ = _ from f5)
                  have wi : IntKind.i64.wrap ((i : Int) + 1) = (i : Int) + 1 := wrapS (by omega)
                  go_region_law (first
                    | (refine step_push_int W5.drew z w2.heap.size fa fs.length fc fs FR5.out flen hsz5.out (by rfl) _ _ (by rfl) (by rfl) (by rfl) ?_; intro g6 c6 w6 q1 q2 q3; obtain ⟨p1, p2, p3, p4⟩ := TS5.out.pushF (t := z) (v' := .slice (some ⟨g6, 0, none⟩) (fs.length + 1) c6) HL5.out q1 q2 (fun b e => by cases e; exact q3); dsimp only at p1; have p4 := Lib.hid p4; clear q1 q2 q3)
                    | (go_simp; go_wp2_with (go_at_call 116; (with_reducible refine WD.out.mono ?_); rintro e w1 ⟨rfl, hw1⟩; obtain rfl := hw1.symm))
                    | fail)
                  all_goals
                    go_wp2
                    go_roundw
                    case rel =>
                      have e9 := LP.out (.slice (some ⟨g9, 0, none⟩) (ks.length + 1) c9) (.slice (some ⟨g6, 0, none⟩) (fs.length + 1) c6)
                      have p5 := p4.out
                      dsimp only at e9 p5
                      rw [KX.out, HZ.out] at e9
                      rw [List.set_set] at p5
                      exact ⟨i + 1, by omega, by go_num, by rw [HFT.out], _, p5, e9⟩
                    case measure => simp [intOf]; omega
            · obtain rfl : i = k := by omega
              have hge2 : ¬ (i : Int) < (i : Int) := by omega
              go_wp2
              go_roundw
              case rel => exact ⟨n + 1, by omega, by go_num, ls, TS.out, LV.out.stop⟩
              case measure => simp [intOf]; omega
        · obtain rfl : n = ways.length := by omega
          have hge2 : ¬ (ways.length : Int) < (ways.length : Int) := by omega
          obtain ⟨c0, _, _⟩ := TS.out.cells
          rw [LV.out.1] at c0
          have LE := Lib.hid LV.out.toEnd
          go_wp2
          go_loopw [119] (fun v wj => ∃ i : Nat, i ≤ k ∧ v = .int .i64 (i : Int) ∧ ∃ ls, TrSt w2 wm.heap.size w2.heap.size ways.length ls wj ∧ LevEnd ways k i ls) (fun v _ => k - (intOf v).toNat)
          case atStart => exact ⟨0, by omega, rfl, ls, TS.out, LE.out⟩
          case round =>
            obtain ⟨i, hik, rfl, ls, ts, lv⟩ := hrel
            have TS := Lib.hid ts
            have LV := Lib.hid lv
            clear ts lv c0
            by_cases hil : i < k
            · have hii : (i : Int) < (k : Int) := by omega
              obtain ⟨⟨kv, fv, ks, fs⟩, hl, hks, hfs⟩ := LV.out.at hil
              have HL := Lib.hid hl
              have lsl : ls.length = k := LV.out.1
              have TS5 := Lib.hid (TS.out.ext (ext_drew (Below.refl _ _)))
              have d0 := TS5.out.cells.1
              rw [lsl] at d0
              have f5 := (TS5.out.lev.cell hl).2
              have fr := TS.out.lev.fs i _ hl
              dsimp only at f5 fr hks hfs
              obtain ⟨fa, fc, rfl, _⟩ := own_form fr
              have FR5 : Hid (wr.drew.ownsRow w2.heap.size 3 1 (.slice fa fs.length fc) fs.length (fs.map intV)) := up_ext fr (ext_drew (Below.refl _ _))
              have flen : fs.length ≤ 1000000 := by rw [hfs, List.length_map, fromM_len]; have := wid_le ways i ways.length; omega
              have ec : (i : Int) + 1 = ((i + 1 : Nat) : Int) := by omega
              obtain ⟨z, hz⟩ : ∃ z, natV (wid ways (i + 1) ways.length) = z := ⟨_, rfl⟩
              have HZ := Lib.hid hz
              have NX := Lib.hid (LV.out.next HW2.out)
              have WD : Hid (Calls Tryz.prog 116 #[.pointer (some ⟨wm.heap.size, 0, none⟩), .int .i64 ((i : Int) + 1), .int .i64 (ways.length : Int)] wr.drew fun e w' => e = .returned (.int .i64 z) ∧ w' = wr.drew) := by
                rw [← HZ.out, ec]
                exact TS5.out.width NX.out.1 NX.out.2
              have LP := Lib.hid (fun fv => LV.out.push (fv := fv) hl)
              have hsz5 : Hid (w2.heap.size ≤ wr.drew.heap.size) := TS5.out.old.size
              have d6 : (wr.alloc (.cells #[.int .i64 z] 3)).cell? ⟨wm.heap.size, 0, none⟩ = some (.slice (some ⟨w2.heap.size, 0, none⟩) k k) := keep (ext_alloc (Below.refl _ wr) _) (show wr.cell? _ = _ from d0)
              have f6 : (wr.alloc (.cells #[.int .i64 z] 3)).cell? ⟨w2.heap.size, i * 2 + 1, none⟩ = some (.slice fa fs.length fc) := keep (ext_alloc (Below.refl _ wr) _) (show wr.cell? _ = _ from f5)
              have wi : IntKind.i64.wrap ((i : Int) + 1) = (i : Int) + 1 := wrapS (by omega)
              have LSL := Lib.hid lsl
              clear hl hks hfs fr ec hz lsl
              go_wp2
              go_region_law (first
                | (refine step_push_int wr.drew z w2.heap.size fa fs.length fc fs FR5.out flen hsz5.out (by rfl) _ _ (by rfl) (by rfl) (by rfl) ?_; intro g6 c6 w6 q1 q2 q3; obtain ⟨p1, p2, p3, p4⟩ := TS5.out.pushF (t := z) (v' := .slice (some ⟨g6, 0, none⟩) (fs.length + 1) c6) HL.out q1 q2 (fun b e => by cases e; exact q3); dsimp only at p1; rw [LSL.out] at p3; have p4 := Lib.hid p4; clear q1 q2 q3)
                | (go_simp; go_wp2_with (go_at_call 116; (with_reducible refine WD.out.mono ?_); rintro e w1 ⟨rfl, hw1⟩; obtain rfl := hw1.symm))
                | fail)
              all_goals
                go_wp2
                go_roundw
                case rel =>
                  have e9 := LP.out (.slice (some ⟨g6, 0, none⟩) (fs.length + 1) c6)
                  have p5 := p4.out
                  dsimp only at e9 p5
                  rw [HZ.out] at e9
                  exact ⟨i + 1, by omega, by go_num, _, p5, e9⟩
                case measure => simp [intOf]; omega
            · obtain rfl : i = k := by omega
              have hge3 : ¬ (i : Int) < (i : Int) := by omega
              have TV := Lib.hid (TS.out.doneB LV.out wb.heap.size E2.out.size)
              have HP : Hid (BuildPostL ar os rs wb (.returned (.tuple #[.pointer (some ⟨wm.heap.size, 0, none⟩), .int .i64 0])) wr) := by
                refine .inr ⟨HOK.out, wm.heap.size, ways, rfl, Nat.le_trans E2.out.size TS.out.pt, (Array.getElem?_eq_some_iff.1 TS.out.top).1, ?_, ext_trans E2.out TS.out.old, ?_, HM2.out, HL2.out⟩
                · intro w9 hb9; rw [HOL.out]; exact TV.out w9 hb9
                · rw [HOL.out]; exact HW2.out
              go_wp2
              go_ret2
              exact HP.out
end Go.Proofs.YtpgbenijjodoeaaGreat
