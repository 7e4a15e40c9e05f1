/- The walk of graph.netOf: to which nodes each one's edges lead. -/
import Derived.Test.YtlalgaioiapjmaaGreatDoorG5
namespace Go.Proofs.YtlalgaioiapjmaaGreatDoor
open Go.ChangeShapes Go.WideShapes Go.ChangeAt Go.RowKit
open K (adj)
theorem info_ints : (Tryz.prog.info? 52).map (fun i => (i.zero, i.size, i.bytes)) = some (some (.slice none 0 0), 1, 24) := by kernel_rfl
theorem adj_snoc (es : List K.Edge) (e : K.Edge) (v : Nat) : adj (es ++ [e]) v = if e.src = (v : Int) then adj es v ++ [e.dst.toNat] else adj es v := by
  unfold adj
  rw [List.filter_append, List.map_append]
  by_cases h : e.src = (v : Int) <;> simp [h]
theorem adj_updA (es : List K.Edge) (e : K.Edge) (v : Nat) (hv : e.src = (v : Int)) : updA (fun u => (adj es u).map numV) v ((adj es v).map numV ++ [numV e.dst.toNat]) = (fun u => (adj (es ++ [e]) u).map numV) ∧ updA (fun u => (adj es u).length) v ((adj es v).length + 1) = fun u => (adj (es ++ [e]) u).length := by
  constructor <;> funext u <;> unfold updA <;> simp only [adj_snoc, hv]
  · by_cases h : u = v
    · subst h; simp
    · rw [if_neg h, if_neg (by omega)]
  · by_cases h : u = v
    · subst h; simp
    · rw [if_neg h, if_neg (by omega)]
theorem adj_len (es : List K.Edge) (v : Nat) : (adj es v).length ≤ es.length := by
  unfold adj
  rw [List.length_map]
  exact List.length_filter_le _ _
def NetPost (es : List K.Edge) (m : Nat) (w : World) (e : Ending) (w' : World) : Prop := ∃ gb C, e = .returned (.slice (some ⟨gb, 0, none⟩) m m) ∧ NetV w' C w.heap.size gb m (adj es) ∧ (∀ b, C b → w.heap.size ≤ b ∧ b < w'.heap.size) ∧ Ext w w'
set_option maxRecDepth 100000 in
set_option maxHeartbeats 8000000 in
theorem c_netOf (es : List K.Edge) (a : Option Addr) (n cap m : Nat) (w : World) (he : EdgesAt w a n es) (hm : m ≤ 65536) (hok : ∀ e ∈ es, 0 ≤ e.src ∧ e.src < (m : Int) ∧ 0 ≤ e.dst ∧ e.dst < (m : Int)) :
    Calls Tryz.prog 100 #[.int .i64 (m : Int), .slice a n cap, .bool false] w (NetPost es m w) := by
  obtain ⟨i0, hi, hz0, hz1, hz2⟩ := info_parts info_ints
  have MK := mkS (P := Tryz.prog) w 151 52 i0 (.slice none 0 0) Tryz.underlying151 hi hz0 hz1 rfl m (by rw [hz2]; omega) (by unfold maxLen; omega)
  have hn := he.1
  have HE := Lib.hid he
  have HL := Lib.hid he.2.1
  have HO := Lib.hid hok
  clear he hok hi hz0 hz1 hz2
  go_enter Tryz.func100, Tryz.ntmps100
  go_wp2
  refine wp_gen (fun W hW => ?_)
  have hb0 : Ext w W := by rw [hW]; exact ext_alloc (Below.refl _ _) _
  have N0 : NetV W (fun b => b = w.heap.size) w.heap.size w.heap.size m (adj []) := by
    rw [hW]
    exact ListsAt.start (Blk.made w m (.slice none 0 0) 52)
  have hsz : w.heap.size < W.heap.size := by rw [hW]; simp
  clear hW MK
  obtain ⟨gb, hgb⟩ : ∃ gb, gb = w.heap.size := ⟨_, rfl⟩
  have HGB := Lib.hid hgb
  rw [← hgb] at N0 ⊢
  go_loopw [14] (fun v wj => ∃ k : Nat, k ≤ n ∧ v = .int .i64 (k : Int) ∧ Ext w wj ∧ ∃ C, NetV wj C gb gb m (adj (es.take k)) ∧ ∀ b, C b → gb ≤ b ∧ b < wj.heap.size) (fun v _ => n - (intOf v).toNat)
  case atStart => exact ⟨0, by omega, rfl, hb0, _, N0, fun b e => by subst e; exact ⟨Nat.le_refl _, by rw [HGB.out]; exact hsz⟩⟩
  case round =>
    obtain ⟨k, hk, rfl, hE, C, hN, hC⟩ := hrel
    by_cases hlt : k < n
    · have hki : (k : Int) < (n : Int) := by omega
      obtain ⟨e, eb, eo, hx, rfl, h0, h1, h2⟩ := (HE.out.keep hE).2.at hlt
      obtain ⟨o1, o2, o3, o4⟩ := HO.out e (List.mem_of_getElem? hx)
      obtain ⟨v, hv⟩ : ∃ v : Nat, e.src = (v : Int) := ⟨e.src.toNat, by omega⟩
      obtain ⟨fv, N1, N2⟩ := hN.each
      have hvm : v < m := by omega
      obtain ⟨x1, x2, x3, x4⟩ := N1 v hvm
      obtain ⟨fa, fc, hf, hfc⟩ := own_form x3
      rw [hf] at x1 x3
      obtain ⟨u, hu⟩ : ∃ u : Nat, e.dst = (u : Int) := ⟨e.dst.toNat, by omega⟩
      obtain ⟨la, hla⟩ : ∃ la, (adj (es.take k) v).length = la := ⟨_, rfl⟩
      have hal : la ≤ 2000000 := by
        have := adj_len (es.take k) v
        rw [List.length_take] at this
        omega
      have PUSH : Hid (∀ W2, Ext wr W2 → ∀ g c w6, w6.ownsRow gb 3 1 (.slice (some ⟨g, 0, none⟩) (la + 1) c) (la + 1) ((adj (es.take k) v).map numV ++ [numV u]) → (W2.alloc (.cells #[.int .i64 (u : Int)] 3)).grownBy w6 (Value.slice fa la fc).ownBlock → ((Value.slice fa la fc).ownBlock = some g ∨ W2.heap.size ≤ g) →
          w6.cell? ⟨gb, v, none⟩ = some (.slice fa la fc) ∧ w6.frozen? ⟨gb, v, none⟩ = false ∧ NetV (w6.setCell ⟨gb, v, none⟩ (.slice (some ⟨g, 0, none⟩) (la + 1) c)) (fun b => C b ∨ b = g) gb gb m (adj (es.take (k + 1))) ∧ (∀ b, C b ∨ b = g → gb ≤ b ∧ b < w6.heap.size) ∧ Ext w (w6.setCell ⟨gb, v, none⟩ (.slice (some ⟨g, 0, none⟩) (la + 1) c)) ∧ ∀ b o u', wr.heap.size ≤ b → W2.cell? ⟨b, o, none⟩ = some u' → w6.cell? ⟨b, o, none⟩ = some u') := fun W2 E2 g c w6 p1 p2 p3 => by
        subst hla
        have P := ListsAt.push (ListsAt.ext hN E2) (by decide) hvm (keep E2 x1) p1 p2 p3
        obtain ⟨q1, q2, q3, q4⟩ := P
        have e1 := adj_updA (es.take k) e v hv
        rw [hu, Int.toNat_natCast, ← take_at hx] at e1
        have hsz6 : wr.heap.size ≤ w6.heap.size := Nat.le_trans E2.size (Nat.le_trans (by simp) p2.size)
        have hgl : ∀ b, C b ∨ b = g → gb ≤ b ∧ b < w6.heap.size := fun b hb => by
          rcases hb with hb | rfl
          · exact ⟨(hC b hb).1, Nat.lt_of_lt_of_le (hC b hb).2 hsz6⟩
          · exact p1.lt b rfl
        refine ⟨q1, q2, ?_, hgl, ?_, fun b o u' hb hc => ?_⟩
        · rw [e1.1, e1.2] at q4
          exact q4
        · refine ext_set (ext_ownB (ext_alloc (ext_trans hE E2) _) p2 (fun b hb => ?_)) (by rw [← HGB.out]; exact Nat.le_refl _) _
          rw [← HGB.out]
          exact (hC b (x4 b (by rw [hf]; exact hb))).1
        · refine (p2.cell (keep (ext_alloc (Below.refl _ _) _) hc) (fun e => ?_))
          have := (hC b (x4 b (by rw [hf]; exact e.symm))).2
          omega
      have OWF : Hid (∀ W2, Ext wr W2 → W2.ownsRow gb 3 1 (.slice fa la fc) la (((adj (es.take k) v).map fun (n : Nat) => (n : Int)).map intV)) := fun W2 E2 => by
        subst hla
        rw [List.map_map]
        exact up_ext x3 E2
      rw [hla] at x1 hfc
      rw [hv] at h0
      rw [hu] at h1
      have hgl : gb ≤ wr.heap.size := by rw [HGB.out]; exact hE.size
      have hvi : (v : Int) < (m : Int) := by omega
      have mixed : Tryz.prog.follows .mixedOrders = true := by kernel_rfl
      have HX := Lib.hid hx
      have HE2 := Lib.hid hE
      clear hx hE hN hC N0 N1 N2 x3 x4 hf o1 o2 o3 o4 hv hu hla hgb hsz hb0 HE HO
      go_upto_region 7 with (fail)
      refine wp_gen (fun W2 hW2 => ?_)
      have E2 : Ext wr W2 := by rw [hW2]; go_grown
      have b0 : W2.cell? ⟨wr.heap.size, 0, none⟩ = some (.int .i64 (v : Int)) := by rw [hW2]; go_simp
      have b1 : W2.cell? ⟨wr.heap.size, 1, none⟩ = some (.int .i64 (u : Int)) := by rw [hW2]; go_simp
      have b0o := fun o => keep (ext_alloc (Below.refl _ W2) o) b0
      have b1o := fun o => keep (ext_alloc (Below.refl _ W2) o) b1
      have x1o := fun o => keep (ext_alloc E2 o) x1
      have x1w := keep E2 x1
      have OW2 := Lib.hid (OWF.out W2.drew (ext_drew E2))
      have PU2 := Lib.hid (PUSH.out W2.drew (ext_drew E2))
      have hb2 : gb ≤ W2.drew.heap.size := by have := E2.size; show gb ≤ W2.heap.size; omega
      have hbx : wr.heap.size ≤ wr.heap.size := Nat.le_refl _
      clear hW2 OWF PUSH h0 h1 h2 x1 x2 E2
      go_region_law (first
        | (refine step_push_int W2.drew (u : Nat) gb fa la fc ((adj (es.take k) v).map fun (n : Nat) => (n : Int)) OW2.out hal hb2 (by rfl) _ _ (by rfl) (by rfl) (by rfl) ?_; intro g6 c6 w6 p1 p2 p4; obtain ⟨u0, u1, M2, L2, V2, F2⟩ := PU2.out g6 c6 w6 (by rw [List.map_map] at p1; exact p1) p2 (p4.imp id (fun e => by rw [e]; simp)); have b06 := F2 _ _ _ hbx (show W2.drew.cell? _ = _ from b0); have b16 := F2 _ _ _ hbx (show W2.drew.cell? _ = _ from b1); clear F2; have M2h := Lib.hid M2; have L2h := Lib.hid L2; have V2h := Lib.hid V2; clear p1 p2 p4 M2 L2 V2)
        | fail)
      all_goals
        go_wp2
        go_roundw
        case rel => exact ⟨k + 1, by omega, by go_num, V2h.out, _, M2h.out, fun b hb => by simpa using L2h.out b hb⟩
        case measure => simp [intOf]; omega
    · have hge : ¬ (k : Int) < (n : Int) := by omega
      have hfull : es.take k = es := List.take_of_length_le (by have := HL.out; omega)
      rw [hfull] at hN
      have HN := Lib.hid hN
      have HC := Lib.hid hC
      have HE2 := Lib.hid hE
      clear hN hC hE hgb
      go_wp2
      go_returns
      exact ⟨gb, C, rfl, by rw [← HGB.out]; exact HN.out, by rw [← HGB.out]; exact HC.out, HE2.out⟩
end Go.Proofs.YtlalgaioiapjmaaGreatDoor
