/- The walk of the document's lay. -/
import Derived.Test.YtcphjfggjjonpaaLayD
namespace Go.Proofs.Ytcphjfggjjonpaa
open Go.ChangeShapes Go.WideShapes Go.ChangeAt Go.RowKit
/-- Before round k: the rest of it comes to what all comes to. -/
def LayDInv (l : AL) (ts os : List Term) (lit : Int) (W : World) (k : Nat) (out : AL) (v : Value) (w : World) : Prop :=
  Ext W w ∧ w.ownsRow W.heap.size 113 5 v out.length (flatTh out) ∧ layL lit ts os 0 l = layL lit (ts.drop k) (os.drop k) k out ∧ out.length ≤ l.length + k
theorem own_th_at {w : World} {base n j : Nat} {v : Value} {l : AL} {p : ByteArray × Thing} (h : w.ownsRow base 113 5 v n (flatTh l)) (hj : l[j]? = some p) : ∃ g cap, v = .slice (some ⟨g, 0, none⟩) n cap ∧ ∀ i u, (thV p)[i]? = some u → w.cell? ⟨g, j * 5 + i, none⟩ = some u := by
  have hl : l.length = n := by have := h.1; rw [flatTh_len] at this; omega
  have hjl := (List.getElem?_eq_some_iff.1 hj).1
  rcases h.2 with ⟨rfl, rfl⟩ | ⟨g, cap, cur, rfl, _, hg, hc, _⟩
  · omega
  · refine ⟨g, cap, rfl, fun i u hu => ?_⟩
    have hi : i < 5 := (List.getElem?_eq_some_iff.1 hu).1
    have := h.cells (g := g) rfl (j * 5 + i) u (by rw [flatTh_get l j i p hj hi]; exact hu)
    rw [Addr.add_lit, Nat.zero_add] at this
    exact this
theorem cells5_at {w : World} {g : Nat} (u0 u1 u2 u3 u4 : Value) (t : TypeId) (hg : g = w.heap.size) : ∀ ad, some (⟨g, 0, none⟩ : Addr) = some ad → ∀ j u, [u0, u1, u2, u3, u4][j]? = some u → (w.alloc (.cells #[u0, u1, u2, u3, u4] t)).cell? (ad.add j) = some u := by
  intro ad e j u hu
  cases e
  subst hg
  rw [Addr.add_lit, World.cell?_alloc_new, Nat.zero_add]
  simpa using hu
theorem named_take {l : AL} {j : Nat} {p : ByteArray × Thing} (h : l[j]? = some p) (v : ByteArray) : named (l.take (j + 1)) v = (named (l.take j) v || decide (p.1 = v)) := by
  unfold named
  rw [List.take_add_one, h, List.any_append]
  simp
theorem clash_take {l : AL} {j : Nat} {p : ByteArray × Thing} (h : l[j]? = some p) (v : ByteArray) (x : Thing) : clash (l.take (j + 1)) v x = (clash (l.take j) v x || (decide (p.1 = v) && !decide (p.2 = x))) := by
  unfold clash
  rw [List.take_add_one, h, List.any_append]
  simp
theorem clash_of {l : AL} {j : Nat} {p : ByteArray × Thing} (h : l[j]? = some p) {v : ByteArray} {x : Thing} (h1 : p.1 = v) (h2 : ¬ p.2 = x) : clash l v x = true := by
  unfold clash
  rw [List.any_eq_true]
  exact ⟨p, List.mem_of_getElem? h, by simp [h1, h2]⟩
theorem LayDInv.ext {l : AL} {ts os : List Term} {lit : Int} {W : World} {k : Nat} {out : AL} {v : Value} {w w' : World} (h : LayDInv l ts os lit W k out v w) (e : Ext w w') : LayDInv l ts os lit W k out v w' :=
  ⟨ext_trans h.1 e, h.2.1.kept (gb_of_ext e none) (by cases v.ownBlock <;> simp), h.2.2⟩
set_option maxRecDepth 100000 in
set_option maxHeartbeats 4000000 in
theorem c_layD (l : AL) (a o : Atom) (al : Option Addr) (nl cl : Nat) (aa ao : Option Addr) (na ca no co : Nat) (lit : Int) (w : World) (hl : ThsAt w al nl cl l) (hbig : nl + na ≤ 1000000000) (ha : TermsAt w aa na a.terms) (ho : TermsAt w ao no o.terms) :
    Calls Try.prog 44 #[.slice al nl cl, .agg #[.string a.pred, .slice aa na ca], .agg #[.string o.pred, .slice ao no co], .int .i64 lit] w (LayDPost l a o lit al nl cl w) := by
  have hn := ha.1
  have LA := Lib.hid ha.2.1
  have LO := Lib.hid ho.2.1
  have HA := Lib.hid ha
  have HO := Lib.hid ho
  have HLS := Lib.hid hl
  have LL := Lib.hid hl.1
  clear ha ho hl
  obtain ⟨b1, e1⟩ : ∃ b, (a.pred.toList == o.pred.toList) = b := ⟨_, rfl⟩
  obtain ⟨b2, e2⟩ : ∃ b, ((na : Int) != no) = b := ⟨_, rfl⟩
  have fin : Hid ((if a.pred = o.pred ∧ a.terms.length = o.terms.length then layL lit a.terms o.terms 0 l else none) = if (b1 && !b2) = true then layL lit a.terms o.terms 0 l else none) := by
    show _ = _
    rw [beq_bytes] at e1
    subst e1 e2
    rw [LA.out, LO.out]
    by_cases h : a.pred = o.pred <;> by_cases h2 : na = no
    · simp [h, h2]
    · have h3 : ¬ (na : Int) = no := by omega
      simp [h, h2, h3]
    · simp [h, h2]
    · simp [h, h2]
  have bad : ∀ {w' : World}, Ext w w' → (if a.pred = o.pred ∧ a.terms.length = o.terms.length then layL lit a.terms o.terms 0 l else none) = none → LayDPost l a o lit al nl cl w (.returned (.tuple #[.slice al nl cl, .bool false])) w' := by
    intro w' h1 h2
    refine ⟨h1, ?_⟩
    rw [h2]
  have BAD := @bad
  clear bad
  cases b1 with
  | false =>
    go_enter Try.func44, Try.ntmps44
    go_wp2
    go_ret2
    exact BAD (ext_alloc (ext_alloc (Below.refl _ _) _) _) (by rw [fin.out]; simp)
  | true =>
    cases b2 with
    | true =>
      go_enter Try.func44, Try.ntmps44
      go_wp2
      go_ret2
      exact BAD (ext_alloc (ext_alloc (Below.refl _ _) _) _) (by rw [fin.out]; simp)
    | false =>
      obtain rfl : na = no := by
        have : (na : Int) = no := by simpa using e2
        omega
      obtain ⟨i0, hi, hz0, hz1, hz2⟩ := info_parts info_th
      have FIN : Hid ((if a.pred = o.pred ∧ a.terms.length = o.terms.length then layL lit a.terms o.terms 0 l else none) = layL lit a.terms o.terms 0 l) := by
        have h := fin.out
        show _ = _
        simpa using h
      clear fin
      go_enter Try.func44, Try.ntmps44
      go_upto_region 1 with (fail)
      refine wp_gen (fun W hW => ?_)
      have hb0 : Ext w W := by rw [hW]; go_grown
      have w0 : W.cell? ⟨w.heap.size, 0, none⟩ = some (.string a.pred) := by rw [hW]; go_simp
      have x4 : W.cell? ⟨w.heap.size, 1, none⟩ = some (.slice aa na ca) := by rw [hW]; go_simp
      have w1 : W.cell? ⟨w.heap.size + 1, 0, none⟩ = some (.string o.pred) := by rw [hW]; go_simp
      have x6 : W.cell? ⟨w.heap.size + 1, 1, none⟩ = some (.slice ao na co) := by rw [hW]; go_simp
      clear hW
      have HAW := Lib.hid (HA.out.keep hb0)
      have HOW := Lib.hid (HO.out.keep hb0)
      have HLW := Lib.hid (HLS.out.keep hb0)
      have hd3 : 0 + nl ≤ maxLen := by unfold maxLen; omega
      have hd4 : (0 + nl) * 56 ≤ 140737488355328 := by omega
      have hfl : (flatTh l).length = nl * 5 := by rw [flatTh_len, LL.out]
      have HF := Lib.hid hfl
      have H3 := Lib.hid hd3
      have H4 := Lib.hid hd4
      clear hfl hd3 hd4 e2
      go_upto_region 5 with (at_builtin; go_loud (refine wpList_append_any rfl _ _ 89 rfl W.heap.size 113 i0 (.agg #[.string ⟨#[]⟩, .int .i64 0, .string ⟨#[]⟩, .int .i64 0, .int .i64 0]) 5 56 Try.underlying89 hi hz0 hz1 hz2 rfl (by decide) _ _ _ rfl (World.ownsRow_nil _ _ _ _) al nl cl (flatTh l) rfl HLW.out.2.1.2 HF.out HLW.out.2.2 (flatTh_one _) H3.out H4.out (Nat.le_refl _) ?_); intro v1 w2 own1 g1)
      have hb1 : Ext W w2 := ext_ownB (Below.refl _ W) g1 (by intro g e; cases e)
      have st : LayDInv l a.terms o.terms lit W 0 l v1 w2 := by
        refine ⟨hb1, ?_, by simp, Nat.le_refl _⟩
        have h := own1
        rw [Nat.zero_add, List.nil_append] at h
        rw [LL.out]
        exact h
      have ST := Lib.hid st
      have y4 := keep hb1 x4
      have y6 := keep hb1 x6
      clear st own1 g1 hb1 e1
      go_wp2
      go_loopw [10, 11] (fun v i wj => ∃ k out, k ≤ na ∧ i = .int .i64 (k : Int) ∧ LayDInv l a.terms o.terms lit W k out v wj) (fun _ i _ => na - (intOf i).toNat)
      case atStart => exact ⟨0, l, by omega, rfl, ST.out⟩
      case round =>
        obtain ⟨k, out, hk, rfl, hs⟩ := hrel
        have z4 := keep hs.1 x4
        have z6 := keep hs.1 x6
        have HS := Lib.hid hs
        clear hs y4 y6
        by_cases hge : na ≤ k
        · obtain rfl : na = k := by omega
          obtain ⟨hE, hO, hQ, hL⟩ := HS.out
          obtain ⟨a', c', rfl, _⟩ := own_ths hO
          go_wp2
          go_ret2
          refine ⟨ext_trans hb0 hE, ?_⟩
          rw [FIN.out, hQ, List.drop_of_length_le (by rw [LA.out]; omega)]
          exact ⟨a', c', rfl, own_base hO hb0.size⟩
        · have hlt : k < na := by omega
          obtain ⟨t, bt_, off, hx, rfl, hc1, hc2, hc3⟩ := (HAW.out.keep HS.out.1).2.at hlt
          obtain ⟨u, bu, offu, hxu, rfl, hu1, hu2, hu3⟩ := (HOW.out.keep HS.out.1).2.at hlt
          have HSTEP := Lib.hid (layL_step (lit := lit) (out := out) (drop_at hx) (drop_at hxu))
          have hki : (k : Int) < (na : Int) := by omega
          have hz1' : w.heap.size + 1 < wr.heap.size := World.block_lt_of_cell? _ _ z6
          have hz0' : w.heap.size < wr.heap.size := Nat.lt_of_succ_lt hz1'
          have hz2' : bu < wr.heap.size := World.block_lt_of_cell? wr ⟨bu, _, none⟩ hu1
          have hz3' : bt_ < wr.heap.size := World.block_lt_of_cell? wr ⟨bt_, _, none⟩ hc1
          clear hx hxu x4 x6
          go_upto_region 10 with (fail)
          refine wp_gen (fun V hV => ?_)
          have eV : Ext wr V := by rw [hV]; exact ext_alloc (ext_alloc (Below.refl _ _) _) _
          have t0 : V.cell? ⟨wr.heap.size, 0, none⟩ = some (.int .i64 t.kind) := by rw [hV]; go_simp
          have t1 : V.cell? ⟨wr.heap.size, 1, none⟩ = some (.string t.text) := by rw [hV]; go_simp
          have u0 : V.cell? ⟨wr.heap.size + 1, 0, none⟩ = some (.int .i64 u.kind) := by rw [hV]; go_simp
          have u1 : V.cell? ⟨wr.heap.size + 1, 1, none⟩ = some (.string u.text) := by rw [hV]; go_simp
          have HSV := Lib.hid (HS.out.ext eV)
          have hv1 : wr.heap.size + 1 < V.heap.size := World.block_lt_of_cell? V ⟨wr.heap.size + 1, _, none⟩ u0
          have hv0 : wr.heap.size < V.heap.size := Nat.lt_of_succ_lt hv1
          clear hV hc1 hc2 hu1 hu2 z4 z6 hz0' hz1' hz2' hz3'
          have NEXT : Hid (layL lit (a.terms.drop k) (o.terms.drop k) k out = layL lit (a.terms.drop (k + 1)) (o.terms.drop (k + 1)) (k + 1) out → ∀ {v : Value} {w' : World}, LayDInv l a.terms o.terms lit W k out v w' → LayDInv l a.terms o.terms lit W (k + 1) out v w') := by
            intro h v w' hh
            exact ⟨hh.1, hh.2.1, hh.2.2.1.trans h, by have := hh.2.2.2; omega⟩
          have eqt := neq_term u.kind t.kind u.text t.text
          obtain ⟨b3, e3⟩ : ∃ b, termEq u.kind u.text t.kind t.text = b := ⟨_, rfl⟩
          have E3 := Lib.hid ((termEq_iff u t).symm.trans e3)
          rw [e3] at eqt
          clear e3
          by_cases k1 : t.kind = 1
          · have k3' : (t.kind == 3) = false := by simp [k1]
            have k1' : (t.kind != 1) = false := by simp [k1]
            have K1 := Lib.hid k1
            clear k1
            obtain ⟨c2, e2⟩ : ∃ b, (u.kind == 2) = b := ⟨_, rfl⟩
            obtain ⟨L, hL⟩ : ∃ L, L = (thingOf u lit k).literal := ⟨_, rfl⟩
            obtain ⟨Pl, hPl⟩ : ∃ L, L = (thingOf u lit k).place := ⟨_, rfl⟩
            have HL := Lib.hid hL
            have HPl := Lib.hid hPl
            clear hL hPl
            go_upto_if 70 with (fail)
            go_cut [] (fun wc => wc = V.alloc (.cells #[.string t.text, .int .i64 u.kind, .string u.text, .int .i64 L, .int .i64 Pl] 113))
            case first =>
              cases c2 with
              | true =>
                have hL : lit = L := by have := HL.out; simp only [thingOf] at this; rw [if_pos (by simpa using e2)] at this; exact this.symm
                have hP : (k : Int) = Pl := by have := HPl.out; simp only [thingOf] at this; rw [if_pos (by simpa using e2)] at this; exact this.symm
                have HL2 := Lib.hid hL
                have HP2 := Lib.hid hP
                clear hL hP HL HPl
                go_wp2
                go_meet
                show World.alloc _ _ = _
                rw [HL2.out, HP2.out]
              | false =>
                have hL : (0 : Int) = L := by have := HL.out; simp only [thingOf] at this; rw [if_neg (by simpa using e2)] at this; exact this.symm
                have hP : (0 : Int) = Pl := by have := HPl.out; simp only [thingOf] at this; rw [if_neg (by simpa using e2)] at this; exact this.symm
                have HL2 := Lib.hid hL
                have HP2 := Lib.hid hP
                clear hL hP HL HPl
                go_wp2
                go_meet
                rw [← HL2.out, ← HP2.out]
            case rest =>
              have eX : Ext V wc := by rw [hcut]; exact ext_alloc (Below.refl _ _) _
              have n0 : wc.cell? ⟨V.heap.size, 0, none⟩ = some (.string t.text) := by rw [hcut]; go_simp
              have n1 : wc.cell? ⟨V.heap.size, 1, none⟩ = some (.int .i64 u.kind) := by rw [hcut]; go_simp
              have n2 : wc.cell? ⟨V.heap.size, 2, none⟩ = some (.string u.text) := by rw [hcut]; go_simp
              have n3 : wc.cell? ⟨V.heap.size, 3, none⟩ = some (.int .i64 L) := by rw [hcut]; go_simp
              have n4 : wc.cell? ⟨V.heap.size, 4, none⟩ = some (.int .i64 Pl) := by rw [hcut]; go_simp
              have s1 := keep eX t1
              have HSX := Lib.hid (HSV.out.ext eX)
              have HEX := Lib.hid (ext_trans eV eX)
              have hth : (⟨u, L, Pl⟩ : Thing) = thingOf u lit k := by rw [HL.out, HPl.out]; rfl
              have HTH := Lib.hid hth
              have K1n : Hid (¬ (t.kind = 3 ∧ ¬ u = t)) := fun hh => by have := K1.out; omega
              obtain ⟨ao', co', rfl, hths⟩ := own_ths HSX.out.2.1
              have hol : out.length ≤ 1000000000 := by have := HSX.out.2.2.2; rw [LL.out] at this; omega
              clear hcut e2 eqt t0 t1 u0 u1 eV eX hth hths
              go_wp2
              obtain ⟨Y, rfl⟩ : ∃ x, x = wc := ⟨_, rfl⟩
              obtain ⟨Z, rfl⟩ : ∃ x, x = wr := ⟨_, rfl⟩
              go_loopw [15, 16] (fun v i wj => ∃ j, j ≤ out.length ∧ i = .int .i64 ((j : Nat) : Int) ∧ v = .bool (named (out.take j) t.text) ∧ clash (out.take j) t.text ⟨u, L, Pl⟩ = false ∧ Ext Y wj) (fun _ i _ => out.length - (intOf i).toNat)
              case atStart => exact ⟨0, by omega, rfl, by simp [named], by simp [clash], Below.refl _ _⟩
              case round =>
                obtain ⟨j, hj, rfl, rfl, hcl, hbj⟩ := hrel
                have HCL := Lib.hid hcl
                have HBJ := Lib.hid hbj
                have m0 := keep hbj n0
                have m1 := keep hbj n1
                have m2 := keep hbj n2
                have m3 := keep hbj n3
                have m4 := keep hbj n4
                have ms := keep hbj s1
                have HSJ := Lib.hid (HSX.out.ext hbj)
                clear hcl
                by_cases hge2 : out.length ≤ j
                · have htk : out.take j = out := List.take_of_length_le hge2
                  have hcl2 := HCL.out
                  rw [htk] at hcl2
                  rw [htk]
                  obtain ⟨b, hb⟩ : ∃ b, named out t.text = b := ⟨_, rfl⟩
                  rw [hb]
                  have HNB := Lib.hid hb
                  have HC2 := Lib.hid hcl2
                  have HEJ := Lib.hid (ext_trans HEX.out HBJ.out)
                  clear hb hcl2 htk
                  cases b with
                  | true =>
                    go_wp2
                    go_roundw
                    case rel => exact ⟨k + 1, out, by omega, by go_num, NEXT.out (by rw [HSTEP.out, if_neg K1n.out, if_pos K1.out, ← HTH.out, if_neg (by rw [HC2.out]; simp), if_pos HNB.out]) HSJ.out⟩
                    case measure => simp [intOf]; omega
                  | false =>
                    have hk1 : out.length + 1 ≤ maxLen := by unfold maxLen; omega
                    have hk2 : (out.length + 1) * 56 ≤ 140737488355328 := by omega
                    have hsz := HSJ.out.1.size
                    go_wp2_with (at_builtin; go_loud (refine wpList_append_any rfl _ _ 89 rfl W.heap.size 113 i0 (.agg #[.string ⟨#[]⟩, .int .i64 0, .string ⟨#[]⟩, .int .i64 0, .int .i64 0]) 5 56 Try.underlying89 hi hz0 hz1 hz2 rfl (by decide) _ _ _ rfl (HSJ.out.2.1.alloc _) (some ⟨wr.heap.size, 0, none⟩) 1 1 (thV (t.text, ⟨u, L, Pl⟩)) rfl (by intro h; cases h) rfl (cells5_at _ _ _ _ _ _ rfl) (by intro u hu; simp [thV] at hu; rcases hu with rfl | rfl | rfl | rfl | rfl <;> rfl) hk1 hk2 (size_alloc_le hsz) ?_); intro v4 w4 own4 g4)
                    go_roundw
                    case rel =>
                      refine ⟨k + 1, out ++ [(t.text, ⟨u, L, Pl⟩)], by omega, by go_num, ext_ownB (ext_alloc HSJ.out.1 _) g4 (fun g e => (HSJ.out.2.1.lt g e).1), by simpa [flatTh_append, flatTh] using own4, ?_, by have := HSJ.out.2.2.2; simp; omega⟩
                      rw [HSJ.out.2.2.1, HSTEP.out, if_neg K1n.out, if_pos K1.out, ← HTH.out, if_neg (by rw [HC2.out]; simp), if_neg (by rw [HNB.out]; simp)]
                    case measure => simp [intOf]; omega
                · obtain ⟨q, hq⟩ : ∃ q, out[j]? = some q := ⟨_, List.getElem?_eq_getElem (by omega)⟩
                  obtain ⟨g, cg, eg, C⟩ := own_th_at HSJ.out.2.1 hq
                  cases eg
                  have p0 : wr.cell? ⟨g, j * 5, none⟩ = some (.string q.1) := C 0 _ rfl
                  have p1 : wr.cell? ⟨g, j * 5 + 1, none⟩ = some (.int .i64 q.2.t.kind) := C 1 _ rfl
                  have p2 : wr.cell? ⟨g, j * 5 + 2, none⟩ = some (.string q.2.t.text) := C 2 _ rfl
                  have p3 : wr.cell? ⟨g, j * 5 + 3, none⟩ = some (.int .i64 q.2.literal) := C 3 _ rfl
                  have p4 : wr.cell? ⟨g, j * 5 + 4, none⟩ = some (.int .i64 q.2.place) := C 4 _ rfl
                  have HQ := Lib.hid hq
                  have hji : (j : Int) < (out.length : Int) := by omega
                  obtain ⟨d1, f1⟩ : ∃ b, (q.1.toList == t.text.toList) = b := ⟨_, rfl⟩
                  obtain ⟨d2, f2⟩ : ∃ b, thEq q (t.text, ⟨u, L, Pl⟩) = b := ⟨_, rfl⟩
                  have eqh := neq_th q.1 t.text q.2 ⟨u, L, Pl⟩
                  rw [f2] at eqh
                  have F1 := Lib.hid ((beq_bytes q.1 t.text).symm.trans f1)
                  have F2 := Lib.hid f2
                  clear hq C f2
                  cases d1 with
                  | false =>
                    have hfv : decide (q.1 = t.text) = false := F1.out
                    have HFV := Lib.hid hfv
                    clear hfv
                    go_wp2
                    go_quiet (fail)
                    go_wp2
                    go_roundw
                    case rel => exact ⟨j + 1, by omega, by go_num, by rw [named_take HQ.out, HFV.out, Bool.or_false], by rw [clash_take HQ.out, HFV.out, HCL.out]; rfl, ext_drewN HBJ.out _⟩
                    case measure => simp [intOf]; omega
                  | true =>
                    have HFV : Hid (decide (q.1 = t.text) = true) := F1.out
                    cases d2 with
                    | false =>
                      go_wp2
                      go_quiet (fail)
                      go_wp2
                      go_quiet (fail)
                      go_wp2
                      go_ret2
                      have hcl3 : clash out t.text (thingOf u lit k) = true := by
                        refine clash_of HQ.out (by simpa using HFV.out) (fun hh => ?_)
                        have h2 := F2.out
                        unfold thEq at h2
                        rw [decide_eq_false_iff_not] at h2
                        refine h2 ?_
                        obtain ⟨q1, q2⟩ := q
                        have h3 : q1 = t.text := by simpa using HFV.out
                        have h4 : q2 = thingOf u lit k := hh
                        rw [h3, h4, ← HTH.out]
                      exact BAD (ext_trans hb0 (ext_trans HS.out.1 (ext_trans HEX.out (ext_drewN (ext_drewN HBJ.out _) _)))) (by rw [FIN.out, HS.out.2.2.1, HSTEP.out, if_neg K1n.out, if_pos K1.out, if_pos hcl3])
                    | true =>
                      have hqe : q = (t.text, ⟨u, L, Pl⟩) := by have h2 := F2.out; unfold thEq at h2; simpa using h2
                      have HQ2 : Hid (decide (q.2 = (⟨u, L, Pl⟩ : Thing)) = true) := by show _ = _; rw [hqe]; simp
                      clear hqe
                      go_wp2
                      go_quiet (fail)
                      go_wp2
                      go_quiet (fail)
                      go_wp2
                      go_roundw
                      case rel => exact ⟨j + 1, by omega, by go_num, by rw [named_take HQ.out, HFV.out, Bool.or_true], by rw [clash_take HQ.out, HFV.out, HCL.out, HQ2.out]; rfl, ext_drewN HBJ.out _⟩
                      case measure => simp [intOf]; omega
          · have k1' : (t.kind != 1) = true := by simpa using k1
            by_cases k3 : t.kind = 3
            · have k3' : (t.kind == 3) = true := by simpa using k3
              have K1 := Lib.hid k1
              have K3 := Lib.hid k3
              clear k1 k3
              cases b3 with
              | false =>
                go_wp2
                go_ret2
                exact BAD (ext_trans hb0 (ext_trans HS.out.1 eV)) (by rw [FIN.out, HS.out.2.2.1, HSTEP.out, if_pos ⟨K3.out, by simpa using E3.out⟩])
              | true =>
                go_wp2
                go_roundw
                case rel => exact ⟨k + 1, out, by omega, by go_num, NEXT.out (by rw [HSTEP.out, if_neg (fun hh => hh.2 (by simpa using E3.out)), if_neg K1.out]) HSV.out⟩
                case measure => simp [intOf]; omega
            · have k3' : (t.kind == 3) = false := by simpa using k3
              have K1 := Lib.hid k1
              have K3 := Lib.hid k3
              clear k1 k3
              go_wp2
              go_roundw
              case rel => exact ⟨k + 1, out, by omega, by go_num, NEXT.out (by rw [HSTEP.out, if_neg (fun hh => K3.out hh.1), if_neg K1.out]) HSV.out⟩
              case measure => simp [intOf]; omega
end Go.Proofs.Ytcphjfggjjonpaa
