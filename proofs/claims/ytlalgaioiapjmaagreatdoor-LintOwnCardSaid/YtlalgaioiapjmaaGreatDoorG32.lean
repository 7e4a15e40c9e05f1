/- The walk of print.renamer.atom. The walk of print.renamer.atom. print.Normal: its plain law, and what holds between two rounds of its loop. -/
import Derived.Test.YtlalgaioiapjmaaGreatDoorG20
import Derived.Test.YtlalgaioiapjmaaGreatDoorG22
import Derived.Test.YtlalgaioiapjmaaGreatDoorG24
import Derived.Test.YtlalgaioiapjmaaGreatDoorG31
namespace Go.Proofs.YtlalgaioiapjmaaGreatDoor
open Go.ChangeShapes Go.WideShapes Go.ChangeAt Go.RowKit
open K (AL Term TermsAt flatT)
theorem flatT_set : ∀ (ts : List Term) (k : Nat) (t : Term), k < ts.length → ((flatT ts).set (k * 2) (.int .i64 t.kind)).set (k * 2 + 1) (.string t.text) = flatT (ts.set k t)
  | [], k, t, h => by simp at h
  | x :: ts, 0, t, _ => rfl
  | x :: ts, k + 1, t, h => by
    have ih := flatT_set ts k t (by simpa using h)
    have e : flatT (x :: ts) = .int .i64 x.kind :: .string x.text :: flatT ts := rfl
    have e2 : flatT ((x :: ts).set (k + 1) t) = .int .i64 x.kind :: .string x.text :: flatT (ts.set k t) := rfl
    rw [e, e2, ← ih, show (k + 1) * 2 = k * 2 + 1 + 1 by omega]
    rfl
theorem flatT_at {ts : List Term} {k : Nat} {t : Term} (h : ts[k]? = some t) : (flatT ts)[k * 2]? = some (.int .i64 t.kind) ∧ (flatT ts)[k * 2 + 1]? = some (.string t.text) := by
  induction ts generalizing k with
  | nil => simp at h
  | cons x ts ih =>
    have e : flatT (x :: ts) = .int .i64 x.kind :: .string x.text :: flatT ts := rfl
    cases k with
    | zero => simp at h; subst h; rw [e]; exact ⟨rfl, rfl⟩
    | succ k =>
      obtain ⟨h1, h2⟩ := ih (k := k) (by simpa using h)
      rw [e, show (k + 1) * 2 = k * 2 + 1 + 1 by omega]
      exact ⟨h1, h2⟩
/-- Terms in a row of their own: an element as it lies, and written anew. -/
theorem own_term {w : World} {base n c : Nat} {a : Option Addr} {ts : List Term} (h : w.ownsRow base 42 2 (.slice a n c) n (flatT ts)) {k : Nat} {t : Term} (ht : ts[k]? = some t) :
    ∃ g, a = some ⟨g, 0, none⟩ ∧ base ≤ g ∧ w.cell? ⟨g, k * 2, none⟩ = some (.int .i64 t.kind) ∧ w.cell? ⟨g, k * 2 + 1, none⟩ = some (.string t.text) ∧ (∀ j, w.frozen? ⟨g, j, none⟩ = false) ∧ ∀ t' : Term, ((w.setCell ⟨g, k * 2, none⟩ (.int .i64 t'.kind)).setCell ⟨g, k * 2 + 1, none⟩ (.string t'.text)).ownsRow base 42 2 (.slice a n c) n (flatT (ts.set k t')) := by
  have hk := (List.getElem?_eq_some_iff.1 ht).1
  have hl : ts.length = n := by have := h.1; rw [K.flatT_len] at this; omega
  obtain ⟨g, ha⟩ : ∃ g, a = some ⟨g, 0, none⟩ := by
    rcases h.2 with ⟨h1, h0⟩ | ⟨g', c2, cur, hv, _⟩
    · omega
    · cases hv
      exact ⟨g', rfl⟩
  subst ha
  obtain ⟨e1, e2⟩ := flatT_at ht
  have c1 := h.cells (g := g) rfl (k * 2) _ e1
  have c2 := h.cells (g := g) rfl (k * 2 + 1) _ e2
  rw [Addr.add_lit] at c1 c2
  refine ⟨g, rfl, (h.lt g rfl).1, by simpa using c1, by simpa using c2, fun j => own_free h, fun t' => ?_⟩
  have := own_set_in (j := k * 2 + 1) (own_set_in (j := k * 2) h (.int .i64 t'.kind)) (.string t'.text)
  rw [flatT_set ts k t' hk] at this
  exact this
def AtomPost (m : AL ByteArray) (b : Nat) (p : ByteArray) (ts : List Term) (w : World) (e : Ending) (w' : World) : Prop := ∃ a c, e = .returned (.agg #[.string p, .slice a ts.length c]) ∧ w'.ownsRow w.heap.size 42 2 (.slice a ts.length c) ts.length (flatT (renTs m ts).2) ∧ RMap w' b (renTs m ts).1 ∧ ButS (fun x => x = b) w w'
/-- Between two rounds. -/
structure AtSt (w : World) (b : Nat) (p : ByteArray) (m : AL ByteArray) (ts : List Term) (k : Nat) (a : Option Addr) (c : Nat) (W : World) : Prop where
  map : RMap W b (renTs m (ts.take k)).1
  box : Blk W w.heap.size 45 [.string p, .slice a ts.length c]
  out : Blk W (w.heap.size + 1) 45 [.string ⟨#[]⟩, .slice none 0 0]
  row : W.ownsRow (w.heap.size + 2) 42 2 (.slice a ts.length c) ts.length (flatT ((renTs m (ts.take k)).2 ++ ts.drop k))
  but : ButS (fun x => x = b) w W
  txt : ∀ t ∈ (renTs m (ts.take k)).2, t.text.size ≤ maxLen
section
variable {w : World} {b : Nat} {p : ByteArray} {m : AL ByteArray} {ts : List Term} {k : Nat} {a : Option Addr} {c : Nat} {W W' : World}
theorem AtSt.up (h : AtSt w b p m ts k a c W) (e : Ext W W') : AtSt w b p m ts k a c W' := ⟨h.map.ext e, h.box.ext e, h.out.ext e, up_ext h.row e, h.but.ext e, h.txt⟩
/-- One term is renamed and written. -/
theorem AtSt.step (h : AtSt w b p m ts k a c W) (hb : b < w.heap.size) {t : Term} (ht : ts[k]? = some t) (hk : okS t.text) (e : ButS (fun x => x = b) W W') (r : RMap W' b (renT (renTs m (ts.take k)).1 t).1) :
    ∃ g, a = some ⟨g, 0, none⟩ ∧ (∃ v0 v1, W'.cell? ⟨g, k * 2, none⟩ = some v0 ∧ W'.cell? ⟨g, k * 2 + 1, none⟩ = some v1) ∧ (∀ j, W'.frozen? ⟨g, j, none⟩ = false) ∧ Blk W' w.heap.size 45 [.string p, .slice a ts.length c] ∧
      AtSt w b p m ts (k + 1) a c ((W'.setCell ⟨g, k * 2, none⟩ (.int .i64 t.kind)).setCell ⟨g, k * 2 + 1, none⟩ (.string (renT (renTs m (ts.take k)).1 t).2.text)) := by
  have hkl := (List.getElem?_eq_some_iff.1 ht).1
  have hlen := (renTs_len m (ts.take k)).1
  rw [List.length_take, Nat.min_eq_left (by omega)] at hlen
  have hn1 : ¬ w.heap.size = b := by omega
  have hn2 : ¬ w.heap.size + 1 = b := by omega
  have row' := e.own h.row (fun x hx q => by have := (h.row.lt x hx).1; omega)
  have hcur : ((renTs m (ts.take k)).2 ++ ts.drop k)[k]? = some t := by
    rw [List.getElem?_append_right (by omega), hlen, Nat.sub_self, List.getElem?_drop, Nat.add_zero]
    exact ht
  obtain ⟨g, ha, hg, c0, c1, cf, hw⟩ := own_term row' hcur
  have kindE : (renT (renTs m (ts.take k)).1 t).2.kind = t.kind := by
    unfold renT
    split
    · split <;> rfl
    · rfl
  have hset : ((renTs m (ts.take k)).2 ++ ts.drop k).set k (renT (renTs m (ts.take k)).1 t).2 = (renTs m (ts.take (k + 1))).2 ++ ts.drop (k + 1) := by
    rw [take_at ht, renTs_snoc, List.set_append_right _ _ (by omega), hlen, Nat.sub_self, drop_at ht]
    simp
  have hw2 := hw (renT (renTs m (ts.take k)).1 t).2
  rw [hset, kindE] at hw2
  have B' := h.box.but e hn1
  have O' := h.out.but e hn2
  have b9 : ∀ v0 v1 : Value, ButS (fun x => x = g) W' ((W'.setCell ⟨g, k * 2, none⟩ v0).setCell ⟨g, k * 2 + 1, none⟩ v1) := fun v0 v1 => ((ButS.refl (fun x => x = g) W').set (.inl rfl) _ _).set (.inl rfl) _ _
  have g1 : w.heap.size ≠ g := by omega
  have g2 : w.heap.size + 1 ≠ g := by omega
  have g3 : b ≠ g := by omega
  refine ⟨g, ha, ⟨_, _, c0, c1⟩, cf, B', ?_, B'.but (b9 _ _) g1, O'.but (b9 _ _) g2, hw2, ((h.but.trans e).set (.inr (by omega)) _ _).set (.inr (by omega)) _ _, ?_⟩
  · rw [take_at ht, renTs_snoc]
    exact r.but (b9 _ _) g3
  · rw [take_at ht, renTs_snoc]
    intro x hx
    rcases List.mem_append.1 hx with hx | hx
    · exact h.txt x hx
    · rw [List.mem_singleton.1 hx]
      exact renT_text r hk
end
end Go.Proofs.YtlalgaioiapjmaaGreatDoor
namespace Go.Proofs.YtlalgaioiapjmaaGreatDoor
open Go.ChangeShapes Go.WideShapes Go.ChangeAt Go.RowKit
open K (AL Term TermsAt flatT)
theorem TabOk.but {w w' : World} {b : Nat} (h : TabOk w) (e : ButS (fun x => x = b) w w') {es : Array MapEntry} {c : Nat} (hb : w.heap[b]? = some (.map es c)) : TabOk w' := by
  unfold TabOk Lib.TabIs World.var? at *
  cases hg : Tryz.prog.globalNamed "internal/strconv.uint64pow10" with
  | none => simp [hg] at h
  | some g =>
    simp only [hg, Option.bind_some] at h ⊢
    have hlt : g < w.heap.size := by
      rcases Nat.lt_or_ge g w.heap.size with h' | h'
      · exact h'
      · rw [Array.getElem?_eq_none h'] at h; simp at h
    have hne : ¬ g = b := by
      rintro rfl
      rw [hb] at h
      simp at h
    rw [e.block g hlt hne]
    exact h
theorem res_atom {fn : Func} {t : Tmp} {tmps : Array Value} {w : World} {b : Nat} {k s : Value} (hf : fn.results = #[.cell t 45]) (ht : tmps.getD t undef = .pointer (some ⟨b, 0, none⟩)) (h : Blk w b 45 [k, s]) : (results fn tmps).run Tryz.prog w = .ok (.agg #[k, s]) w := by
  have h0 := h.cell (i := 0) rfl
  have h1 := h.cell (i := 1) rfl
  have ht' : tmps[t]?.getD undef = .pointer (some ⟨b, 0, none⟩) := by rw [← ht]; simp
  simp only [results, hf]
  go_simp
set_option linter.unusedSimpArgs false in
set_option maxRecDepth 100000 in
set_option maxHeartbeats 4000000 in
theorem c_atomR (m : AL ByteArray) (b : Nat) (p : ByteArray) (ts : List Term) (a : Option Addr) (n c : Nat) (w : World) (h : RMap w b m) (hT : TabOk w) (ht : TermsAt w a n ts) (hc : capOk a n c) (hm : m.length + n ≤ 1000000) :
    Calls Tryz.prog 109 #[.map (some b), .agg #[.string p, .slice a n c]] w (AtomPost m b p ts w) := by
  obtain rfl : ts.length = n := ht.2.1
  have H := Lib.hid h
  have HT := Lib.hid hT
  have HTS := Lib.hid ht
  have hbl := h.1.lt
  have CL : Hid (∀ W, Ext w W → Calls Tryz.prog 144 #[.slice a ts.length c] W fun e w' => ∃ a' c', e = .returned (.slice a' ts.length c') ∧ w'.ownsRow W.heap.size 42 2 (.slice a' ts.length c') ts.length (flatT ts) ∧ Ext W w') := fun W e => K.c_CloneT ts a ts.length c W (ht.keep e) hc
  clear h hT ht hc
  go_enter Tryz.func109, Tryz.ntmps109
  go_upto_region 1 with (fail)
  refine wp_gen (fun W hW => ?_)
  have E0 : Ext w W := by rw [hW]; exact ext_alloc (ext_alloc (Below.refl _ _) _) _
  have hz : W.heap.size = w.heap.size + 2 := by rw [hW]; simp
  have B0 : Blk W w.heap.size 45 [.string p, .slice a ts.length c] := by
    rw [hW]
    exact (Blk.new w [.string p, .slice a ts.length c] 45).ext (ext_alloc (Below.refl _ _) _)
  have O0 : Blk W (w.heap.size + 1) 45 [.string ⟨#[]⟩, .slice none 0 0] := by
    rw [hW]
    have := Blk.new (w.alloc (.cells #[.string p, .slice a ts.length c] 45)) [.string ⟨#[]⟩, .slice none 0 0] 45
    rw [World.size_alloc] at this
    exact this
  have b1 := B0.cell (i := 1) rfl
  have CLW := Lib.hid (CL.out W E0)
  rw [hz] at CLW
  have HB := Lib.hid B0
  have HO := Lib.hid O0
  have HE := Lib.hid E0
  clear hW CL B0 O0 E0
  go_upto_region 2 with (go_at_call 144; (with_reducible refine CLW.out.mono ?_); rintro e w2 ⟨a2, c2, rfl, own2, E2⟩; have b2 := keep E2 b1; have f2 := (HB.out.ext E2).free; have OW := Lib.hid own2; have HE2 := Lib.hid E2; clear own2 E2)
  obtain ⟨W3, hW3⟩ : ∃ W3, w2.setCell ⟨w.heap.size, 1, none⟩ (.slice a2 ts.length c2) = W3 := ⟨_, rfl⟩
  have S0 : AtSt w b p m ts 0 a2 c2 W3 := by
    have b3 : ButS (fun x => x = w.heap.size) w2 W3 := by rw [← hW3]; exact (ButS.refl (fun x => x = w.heap.size) w2).set (.inl rfl) _ _
    have e02 := ext_trans HE.out HE2.out
    refine ⟨(H.out.ext e02).but b3 (by omega), ?_, (HO.out.ext HE2.out).but b3 (by omega), ?_, ?_, by simp [renTs]⟩
    · have := (HB.out.ext HE2.out).set 1 (.slice a2 ts.length c2)
      rw [hW3] at this
      exact this
    · exact b3.own OW.out (fun x hx q => by have := (OW.out.lt x hx).1; omega)
    · rw [← hW3]
      exact ((ButS.refl (fun x => x = b) w).ext e02).set (.inr (Nat.le_refl _)) _ _
  have b3 := S0.box.cell (i := 1) rfl
  have HS := Lib.hid S0
  rw [hW3]
  clear hW3 S0 b2 f2 OW HE2 HB HO CLW b1 HE
  go_wp2
  go_loopw [14] (fun v wr => ∃ k : Nat, k ≤ ts.length ∧ v = .int .i64 (k : Int) ∧ AtSt w b p m ts k a2 c2 wr) (fun v _ => ts.length - (intOf v).toNat)
  case atStart => exact ⟨0, Nat.zero_le _, rfl, HS.out⟩
  case round =>
    obtain ⟨k, hk, rfl, st⟩ := hrel
    by_cases hlt : ¬ k < ts.length
    · have hki : ¬ (k : Int) < (ts.length : Int) := by omega
      obtain ⟨nk, hnk⟩ : ∃ nk, ts.length = nk := ⟨_, rfl⟩
      have x0 := st.box.cell (i := 0) rfl
      have x1 := st.box.cell (i := 1) rfl
      have o0 := st.out.cell (i := 0) rfl
      have o1 := st.out.cell (i := 1) rfl
      have of_ := st.out.free
      have ST := Lib.hid st
      have HK : Hid (k = ts.length) := by show _ = _; omega
      clear st hnk
      go_wp2
      refine bodyPost_ret (res_atom rfl rfl ((ST.out.out.set 0 (.string p)).set 1 (.slice a2 ts.length c2))) rfl ?_
      have b9 : ButS (fun x => x = w.heap.size + 1) wr ((wr.setCell ⟨w.heap.size + 1, 0, none⟩ (.string p)).setCell ⟨w.heap.size + 1, 1, none⟩ (.slice a2 ts.length c2)) := ((ButS.refl (fun x => x = w.heap.size + 1) wr).set (.inl rfl) _ _).set (.inl rfl) _ _
      have st := ST.out
      rw [HK.out] at st
      have r9 := b9.own st.row (fun x hx q => by have := (st.row.lt x hx).1; omega)
      have m9 := st.map.but b9 (by omega)
      rw [List.take_length] at r9 m9
      rw [List.drop_length, List.append_nil] at r9
      exact ⟨a2, c2, rfl, own_base r9 (by omega), m9, put2_but _ _ st.but⟩
    · have hlt : k < ts.length := by omega
      have hki : (k : Int) < (ts.length : Int) := by omega
      obtain ⟨t, tb, toff, htk, hta, h0, h1, h2⟩ := HTS.out.2.at hlt
      have hlen := (renTs_len m (ts.take k)).1
      have hmlen := (renTs_len m (ts.take k)).2
      rw [List.length_take, Nat.min_eq_left (by omega)] at hlen hmlen
      have hcur : ((renTs m (ts.take k)).2 ++ ts.drop k)[k]? = some t := by
        rw [List.getElem?_append_right (by omega), hlen, Nat.sub_self, List.getElem?_drop, Nat.add_zero]
        exact htk
      obtain ⟨g, hg, hgl, c0, c1, cf, _⟩ := own_term st.row hcur
      subst hg
      obtain ⟨m1, hm1⟩ : ∃ m1, (renTs m (ts.take k)).1 = m1 := ⟨_, rfl⟩
      have STEP : Hid (∀ W4 W5, Ext wr W4 → ButS (fun x => x = b) W4 W5 → RMap W5 b (renT m1 t).1 → (∃ v0 v1, W5.cell? ⟨g, k * 2, none⟩ = some v0 ∧ W5.cell? ⟨g, k * 2 + 1, none⟩ = some v1) ∧ (∀ j, W5.frozen? ⟨g, j, none⟩ = false) ∧ Blk W5 w.heap.size 45 [.string p, .slice (some ⟨g, 0, none⟩) ts.length c2] ∧
          AtSt w b p m ts (k + 1) (some ⟨g, 0, none⟩) c2 ((W5.setCell ⟨g, k * 2, none⟩ (.int .i64 t.kind)).setCell ⟨g, k * 2 + 1, none⟩ (.string (renT m1 t).2.text))) := fun W4 W5 e4 e5 r5 => by
        rw [← hm1] at r5 ⊢
        obtain ⟨g', hg', q1, q2, q3, q4⟩ := (st.up e4).step hbl htk h2 e5 r5
        cases hg'
        exact ⟨q1, q2, q3, q4⟩
      have CT : Hid (∀ W4, Ext wr W4 → Calls Tryz.prog 110 #[.map (some b), .agg #[.int .i64 t.kind, .string t.text]] W4 (TermPost m1 b t W4)) := fun W4 e4 => by
        have hTW : TabOk W4 := by
          obtain ⟨es, cl, hmb, _⟩ := H.out.1
          exact HT.out.but (st.up e4).but hmb
        have := (st.up e4).map
        rw [hm1] at this
        exact c_term m1 b t W4 this hTW h2 (by rw [← hm1]; omega)
      have HLT := Lib.hid hlt
      have HSTU : Hid (∀ W', Ext wr W' → Blk W' w.heap.size 45 [.string p, .slice (some ⟨g, 0, none⟩) ts.length c2]) := fun W' e => st.box.ext e
      clear st hcur cf hlen hmlen h0 h1 htk hm1 hta
      go_upto_region 5 with (fail)
      refine wp_gen (fun W4 hW4 => ?_)
      have E4 : Ext wr W4 := by rw [hW4]; exact ext_alloc (Below.refl _ _) _
      have y0 : W4.cell? ⟨wr.heap.size, 0, none⟩ = some (.int .i64 t.kind) := by rw [hW4]; go_simp
      have y1 : W4.cell? ⟨wr.heap.size, 1, none⟩ = some (.string t.text) := by rw [hW4]; go_simp
      have x1 := (HSTU.out W4 E4).cell (i := 1) rfl
      have x1d : W4.drew.cell? ⟨w.heap.size, 1, none⟩ = some (.slice (some ⟨g, 0, none⟩) ts.length c2) := x1
      have y0d : W4.drew.cell? ⟨wr.heap.size, 0, none⟩ = some (.int .i64 t.kind) := y0
      have y1d : W4.drew.cell? ⟨wr.heap.size, 1, none⟩ = some (.string t.text) := y1
      have E4d := ext_drew E4
      have CTW := Lib.hid (CT.out W4.drew E4d)
      have mixed : Tryz.prog.follows .mixedOrders = true := by kernel_rfl
      have hwb : w.heap.size ≠ b := by omega
      clear hW4 CT
      go_region_law (first
        | (go_simp; go_wp2_with (go_at_call 110; (with_reducible refine CTW.out.mono ?_); unfold TermPost; rintro e w5 ⟨rfl, r5, b5⟩; (obtain ⟨⟨v0, v1, k0, k1⟩, kf, kb, s5⟩ := STEP.out W4.drew w5 E4d b5 r5); have z1 := kb.cell (i := 1) rfl; have S5 := Lib.hid s5; clear s5 r5 b5 kb))
        | fail)
      all_goals
        go_wp2
        go_roundw
        case rel => exact ⟨k + 1, by have := HLT.out; omega, by go_num, S5.out⟩
        case measure => have := HLT.out; simp [intOf]; omega
end Go.Proofs.YtlalgaioiapjmaaGreatDoor
namespace Go.Proofs.YtlalgaioiapjmaaGreatDoor
open Go.ChangeShapes Go.WideShapes Go.ChangeAt Go.RowKit
open K (AL Rule Term Atom TermsAt LitsAt LitP valsP flatP flatT)
def renL (m : AL ByteArray) (l : K.Lit) : AL ByteArray × K.Lit :=
  if l.kind = 3 then ((renT (renT m l.left).1 l.right).1, ⟨l.kind, ⟨⟨#[]⟩, []⟩, l.op, (renT m l.left).2, (renT (renT m l.left).1 l.right).2⟩)
  else ((renTs m l.atom.terms).1, ⟨l.kind, ⟨l.atom.pred, (renTs m l.atom.terms).2⟩, l.op, l.left, l.right⟩)
def renLs : AL ByteArray → List K.Lit → AL ByteArray × List K.Lit
  | m, [] => (m, [])
  | m, l :: ls => ((renLs (renL m l).1 ls).1, (renL m l).2 :: (renLs (renL m l).1 ls).2)
theorem renLs_snoc : ∀ (m : AL ByteArray) (ls : List K.Lit) (l : K.Lit), renLs m (ls ++ [l]) = ((renL (renLs m ls).1 l).1, (renLs m ls).2 ++ [(renL (renLs m ls).1 l).2])
  | m, [], l => rfl
  | m, x :: ls, l => by
    show renLs m (x :: (ls ++ [l])) = _
    unfold renLs
    rw [renLs_snoc (renL m x).1 ls l]
    rfl
/-- How many variables a literal may bring. -/
def litW (l : K.Lit) : Nat := l.atom.terms.length + 2
theorem renL_len (m : AL ByteArray) (l : K.Lit) : (renL m l).1.length ≤ m.length + litW l := by
  unfold renL litW
  split
  · have h1 := renT_len m l.left
    have h2 := renT_len (renT m l.left).1 l.right
    show (renT _ _).1.length ≤ _
    omega
  · have := (renTs_len m l.atom.terms).2
    show (renTs _ _).1.length ≤ _
    omega
theorem renLs_len : ∀ (m : AL ByteArray) (ls : List K.Lit), (renLs m ls).2.length = ls.length ∧ (renLs m ls).1.length ≤ m.length + (ls.map litW).sum
  | m, [] => ⟨rfl, Nat.le_refl _⟩
  | m, l :: ls => by
    obtain ⟨h1, h2⟩ := renLs_len (renL m l).1 ls
    have h3 := renL_len m l
    refine ⟨by show _ + 1 = _ + 1; rw [h1], ?_⟩
    show (renLs (renL m l).1 ls).1.length ≤ _
    simp only [List.map_cons, List.sum_cons]
    omega
/-- A rule's normal form. -/
def normalV (r : Rule) : Rule := ⟨⟨r.head.pred, (renTs [] r.head.terms).2⟩, (renLs (renTs [] r.head.terms).1 r.body).2⟩
theorem terms_but {W W' : World} {a : Option Addr} {n : Nat} {ts : List Term} {S : Nat → Prop} (h : TermsAt W a n ts) (b : ButS S W W') (hs : ∀ x off, a = some ⟨x, off, none⟩ → ¬ S x) : TermsAt W' a n ts := by
  refine ⟨h.1, h.2.1, fun i t ht => ?_⟩
  obtain ⟨x, off, e, h1, h2, h3⟩ := h.2.2 i t ht
  exact ⟨x, off, e, b.cell (hs x off e) h1, b.cell (hs x off e) h2, h3⟩
theorem renT_sub (m : AL ByteArray) (t : Term) : ∀ p ∈ m, p ∈ (renT m t).1 := fun p hp => by
  unfold renT
  split
  · split
    · exact hp
    · rename_i hg
      rw [putL_new (getL_none.1 hg)]
      exact List.mem_append_left _ hp
  · exact hp
theorem renT_from (m : AL ByteArray) (t : Term) : (renT m t).2.text = t.text ∨ ∃ p ∈ (renT m t).1, p.2 = (renT m t).2.text := by
  unfold renT
  split
  · split
    · rename_i hg
      obtain ⟨p, h1, h2⟩ := getL_mem hg
      exact .inr ⟨p, h1, h2⟩
    · rename_i hg
      refine .inr ?_
      rw [putL_new (getL_none.1 hg)]
      exact ⟨_, List.mem_append_right _ (List.mem_singleton.2 rfl), rfl⟩
  · exact .inl rfl
theorem renTs_sub : ∀ (m : AL ByteArray) (ts : List Term), ∀ p ∈ m, p ∈ (renTs m ts).1
  | _, [], _, hp => hp
  | m, t :: ts, p, hp => renTs_sub (renT m t).1 ts p (renT_sub m t p hp)
theorem renTs_from : ∀ (m : AL ByteArray) (ts : List Term), ∀ x ∈ (renTs m ts).2, (∃ t ∈ ts, x.text = t.text) ∨ ∃ p ∈ (renTs m ts).1, p.2 = x.text
  | _, [], x, hx => by cases hx
  | m, t :: ts, x, hx => by
    rcases List.mem_cons.1 hx with rfl | hx
    · rcases renT_from m t with h | ⟨p, h1, h2⟩
      · exact .inl ⟨t, List.mem_cons_self .., h⟩
      · exact .inr ⟨p, renTs_sub _ ts p h1, h2⟩
    · rcases renTs_from (renT m t).1 ts x hx with ⟨y, h1, h2⟩ | h
      · exact .inl ⟨y, List.mem_cons_of_mem _ h1, h2⟩
      · exact .inr h
/-- Renamed terms in a row of one's own. -/
theorem ren_terms {w : World} {base mb : Nat} {m : AL ByteArray} {ts : List Term} {a : Option Addr} {c : Nat} (h : w.ownsRow base 42 2 (.slice a ts.length c) ts.length (flatT (renTs m ts).2)) (hm : RMap w mb (renTs m ts).1) (hn : ts.length ≤ 5864062014634) (hs : ∀ t ∈ ts, t.text.size ≤ maxLen) : TermsAt w a ts.length (renTs m ts).2 := by
  have hl := (renTs_len m ts).1
  rcases h.2 with ⟨h1, h0⟩ | ⟨g, c2, cur, hv, _⟩
  · have e : (renTs m ts).2 = [] := List.eq_nil_of_length_eq_zero (by omega)
    rw [e]
    exact ⟨hn, by rw [h0]; rfl, fun i t ht => by simp at ht⟩
  · cases hv
    refine K.own_terms (rest := []) (by rw [List.append_nil]; exact h) hl hn (fun x hx => ?_)
    rcases renTs_from m ts x hx with ⟨t, h1, h2⟩ | ⟨p, h1, h2⟩
    · rw [h2]; exact hs t h1
    · rw [← h2]; exact (hm.2 p h1).2
theorem wpList_push_lit {ops : Array Oper} {rest : List Oper} {o : Oper} {a : Act} {Q : Exit → Act → World → Prop} (W0 : World) (p : LitP) (base : Nat) (fa : Option Addr) (n fc : Nat) (ps : List LitP) (hown : W0.ownsRow base 47 8 (.slice fa n fc) n (flatP ps)) (hn : n ≤ 2000000) (hbase : base ≤ W0.heap.size) (hgd : o.guard = none) (so xo : Operand)
    (ho : o.op = .call { callee := .builtin .append, args := #[so, xo], argTypes := #[48, 48] }) (hs : a.eval so = .slice fa n fc) (hx : a.eval xo = .slice (some ⟨W0.heap.size, 0, none⟩) 1 1)
    (h : ∀ g cap w', w'.ownsRow base 47 8 (.slice (some ⟨g, 0, none⟩) (n + 1) cap) (n + 1) (flatP (ps ++ [p])) → (W0.alloc (.cells (valsP p).toArray 47)).grownBy w' (Value.slice fa n fc).ownBlock → ((Value.slice fa n fc).ownBlock = some g ∨ W0.heap.size < g) → wpList Tryz.prog ops Q rest (a.put o.dst (.slice (some ⟨g, 0, none⟩) (n + 1) cap)) w') :
    wpList Tryz.prog ops Q (o :: rest) a (W0.alloc (.cells (valsP p).toArray 47)) := by
  obtain ⟨n0, hn0, nz0, nz1, nz2⟩ := info_parts K.info_lit
  exact wpList_append_one _ hgd so xo 48 ho base 47 n0 (.agg #[.int .i64 0, .string ⟨#[]⟩, .slice none 0 0, .int .i64 0, .int .i64 0, .string ⟨#[]⟩, .int .i64 0, .string ⟨#[]⟩]) 8 104 Tryz.underlying48 hn0 nz0 nz1 nz2 rfl (by decide) _ n _ (flatP ps) hs (hown.alloc _) ⟨W0.heap.size, 0, none⟩ 1 (valsP p) hx rfl (fun j x hj => by
    have hB := Blk.new W0 (valsP p) 47
    rw [Addr.add_lit, Nat.zero_add]
    exact hB.cell hj) (fun u hu => K.flatP_one [p] u (by simpa [flatP] using hu)) (by unfold maxLen; omega) (by omega) (by simp; omega) fun g cap w1 hown1 hgrow hat _ => h g cap w1 (by rw [K.flatP_append]; simpa [flatP] using hown1) hgrow (hat.imp id fun e => by rw [e]; simp)
/-- A block that the loop of Normal does not write. -/
def FarN (mb ob rs : Nat) (row : Value) (W : World) (x : Nat) : Prop := x ≠ mb ∧ x ≠ ob ∧ x ≠ rs ∧ row.ownBlock ≠ some x ∧ x < W.heap.size
theorem FarN.up {mb ob rs : Nat} {row : Value} {W W' : World} {x : Nat} (h : FarN mb ob rs row W x) (e : W.heap.size ≤ W'.heap.size) : FarN mb ob rs row W' x := ⟨h.1, h.2.1, h.2.2.1, h.2.2.2.1, Nat.lt_of_lt_of_le h.2.2.2.2 e⟩
/-- Between two rounds of Normal's loop: M = the map mb, the head's terms, the literals ps so far. -/
structure NorSt (w : World) (lo mb ob rs : Nat) (M : AL ByteArray) (p : ByteArray) (ah : Option Addr) (nh ch : Nat) (hts : List Term) (ps : List LitP) (ba : Option Addr) (bn bc : Nat) (W : World) : Prop where
  map : RMap W mb M
  box : Blk W ob 50 [.string p, .slice ah nh ch, .slice ba bn bc]
  res : Blk W rs 50 [.string ⟨#[]⟩, .slice none 0 0, .slice none 0 0]
  head : TermsAt W ah nh hts
  row : W.ownsRow lo 47 8 (.slice ba bn bc) bn (flatP ps)
  ok : ∀ q ∈ ps, K.okP W q
  farH : ∀ x off, ah = some ⟨x, off, none⟩ → FarN mb ob rs (.slice ba bn bc) W x
  farP : ∀ q ∈ ps, ∀ x off, q.2.1 = some ⟨x, off, none⟩ → FarN mb ob rs (.slice ba bn bc) W x
  below : mb < lo ∧ ob < lo ∧ rs < lo
  apart : mb ≠ ob ∧ rs ≠ mb ∧ rs ≠ ob
  wb : w.heap.size ≤ mb ∧ w.heap.size ≤ ob ∧ w.heap.size ≤ rs
  ext : Ext w W
section
variable {w : World} {lo mb ob rs : Nat} {M : AL ByteArray} {p : ByteArray} {ah : Option Addr} {nh ch : Nat} {hts : List Term} {ps : List LitP} {ba : Option Addr} {bn bc : Nat} {W W' : World}
theorem NorSt.up (h : NorSt w lo mb ob rs M p ah nh ch hts ps ba bn bc W) (e : Ext W W') : NorSt w lo mb ob rs M p ah nh ch hts ps ba bn bc W' :=
  ⟨h.map.ext e, h.box.ext e, h.res.ext e, h.head.keep e, up_ext h.row e, fun q hq => (h.ok q hq).keep e, fun x o hx => (h.farH x o hx).up e.size, fun q hq x o hx => (h.farP q hq x o hx).up e.size, h.below, h.apart, h.wb, ext_trans h.ext e⟩
theorem NorSt.notRow (h : NorSt w lo mb ob rs M p ah nh ch hts ps ba bn bc W) {x : Nat} (hx : x < lo) : (Value.slice ba bn bc).ownBlock ≠ some x := fun e => by have := (h.row.lt x e).1; omega
/-- The map alone is written. -/
theorem NorSt.ren (h : NorSt w lo mb ob rs M p ah nh ch hts ps ba bn bc W) (e : ButS (fun x => x = mb) W W') {M' : AL ByteArray} (hm : RMap W' mb M') : NorSt w lo mb ob rs M' p ah nh ch hts ps ba bn bc W' := by
  refine ⟨hm, h.box.but e (Ne.symm h.apart.1), h.res.but e h.apart.2.1, terms_but h.head e (fun x o hx => (h.farH x o hx).1), e.own h.row (fun b hb hx => h.notRow h.below.1 (by rw [hb, hx])), fun q hq => ⟨terms_but (h.ok q hq).1 e (fun x o hx => (h.farP q hq x o hx).1), (h.ok q hq).2⟩, fun x o hx => (h.farH x o hx).up e.size, fun q hq x o hx => (h.farP q hq x o hx).up e.size, h.below, h.apart, h.wb, ?_⟩
  have b0 : ButS (fun x => x = mb) w W := ⟨h.ext.os, h.ext.tape, h.ext.output, h.ext.size, fun b hb _ => h.ext.block b hb⟩
  have b1 := b0.trans e
  exact ⟨b1.os, b1.tape, b1.output, b1.size, fun b hb => b1.block b hb (by have := h.wb.1; omega)⟩
/-- One literal more: behind the row, and the row's value in the box. -/
theorem NorSt.push (h : NorSt w lo mb ob rs M p ah nh ch hts ps ba bn bc W) {q : LitP} (hq : K.okP W q) (hf : ∀ x off, q.2.1 = some ⟨x, off, none⟩ → FarN mb ob rs (.slice ba bn bc) W x) {o : Obj} {g c' : Nat} {w6 : World} (own6 : w6.ownsRow lo 47 8 (.slice (some ⟨g, 0, none⟩) (bn + 1) c') (bn + 1) (flatP (ps ++ [q]))) (gr : (W.alloc o).grownBy w6 (Value.slice ba bn bc).ownBlock) (hat : (Value.slice ba bn bc).ownBlock = some g ∨ W.heap.size < g) :
    Blk w6 ob 50 [.string p, .slice ah nh ch, .slice ba bn bc] ∧ NorSt w lo mb ob rs M p ah nh ch hts (ps ++ [q]) (some ⟨g, 0, none⟩) (bn + 1) c' (w6.setCell ⟨ob, 2, none⟩ (.slice (some ⟨g, 0, none⟩) (bn + 1) c')) := by
  have eA := ext_alloc (Below.refl _ W : Ext W W) o
  have b6 : ButS (fun x => (Value.slice ba bn bc).ownBlock = some x) W w6 := ((ButS.refl _ W).ext eA).grown gr (fun b hb => .inl hb)
  have B6 := h.box.but b6 (h.notRow h.below.2.1)
  have glo : lo ≤ g := (own6.lt g rfl).1
  have bS : ButS (fun x => x = ob) w6 (w6.setCell ⟨ob, 2, none⟩ (.slice (some ⟨g, 0, none⟩) (bn + 1) c')) := (ButS.refl (fun x => x = ob) w6).set (.inl rfl) _ _
  have bA : ButS (fun x => (Value.slice ba bn bc).ownBlock = some x ∨ x = ob) W (w6.setCell ⟨ob, 2, none⟩ (.slice (some ⟨g, 0, none⟩) (bn + 1) c')) := (b6.mono (T := fun x => (Value.slice ba bn bc).ownBlock = some x ∨ x = ob) (fun b _ hb => .inl hb)).set (.inl (.inr rfl)) _ _
  have far : ∀ x, FarN mb ob rs (.slice ba bn bc) W x → FarN mb ob rs (.slice (some ⟨g, 0, none⟩) (bn + 1) c') (w6.setCell ⟨ob, 2, none⟩ (.slice (some ⟨g, 0, none⟩) (bn + 1) c')) x := fun x hx => by
    refine ⟨hx.1, hx.2.1, hx.2.2.1, ?_, Nat.lt_of_lt_of_le hx.2.2.2.2 bA.size⟩
    intro e
    have e : some g = some x := e
    cases e
    rcases hat with hat | hat
    · exact hx.2.2.2.1 hat
    · have := hx.2.2.2.2; omega
  have nS : ∀ x, FarN mb ob rs (.slice ba bn bc) W x → ¬ ((Value.slice ba bn bc).ownBlock = some x ∨ x = ob) := fun x hx e => e.elim hx.2.2.2.1 hx.2.1
  refine ⟨B6, h.map.but bA (fun e => e.elim (h.notRow h.below.1) h.apart.1), ?_, h.res.but bA (fun e => e.elim (h.notRow h.below.2.2) h.apart.2.2), terms_but h.head bA (fun x o hx => nS x (h.farH x o hx)), bS.own own6 (fun b hb hx => by
    have hb : some g = some b := hb
    cases hb
    have := h.below.2.1
    omega), fun k hk => ?_, fun x o hx => far x (h.farH x o hx), fun k hk x o hx => ?_, h.below, h.apart, h.wb, ?_⟩
  · have := B6.set 2 (.slice (some ⟨g, 0, none⟩) (bn + 1) c')
    exact this
  · rcases List.mem_append.1 hk with hk | hk
    · exact ⟨terms_but (h.ok k hk).1 bA (fun x o hx => nS x (h.farP k hk x o hx)), (h.ok k hk).2⟩
    · rw [List.mem_singleton.1 hk]
      exact ⟨terms_but hq.1 bA (fun x o hx => nS x (hf x o hx)), hq.2⟩
  · rcases List.mem_append.1 hk with hk | hk
    · exact far x (h.farP k hk x o hx)
    · rw [List.mem_singleton.1 hk] at hx
      exact far x (hf x o hx)
  · have b0 : ButS (fun x => (Value.slice ba bn bc).ownBlock = some x ∨ x = ob) w W := ⟨h.ext.os, h.ext.tape, h.ext.output, h.ext.size, fun b hb _ => h.ext.block b hb⟩
    have b1 := b0.trans bA
    refine ⟨b1.os, b1.tape, b1.output, b1.size, fun b hb => b1.block b hb ?_⟩
    rintro (e | e)
    · have := h.row.lt b e
      have := h.below.1
      have := h.wb.1
      omega
    · have := h.wb.2.1
      omega
end
end Go.Proofs.YtlalgaioiapjmaaGreatDoor
