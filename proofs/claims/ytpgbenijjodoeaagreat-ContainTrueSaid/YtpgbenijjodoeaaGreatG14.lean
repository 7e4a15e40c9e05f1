/- The walks of contain's mapping.forget and mapping.lay. -/
import Derived.Test.YtpgbenijjodoeaaGreatG13
namespace Go.Proofs.YtpgbenijjodoeaaGreat.K
open Go.ChangeShapes Go.WideShapes Go.ChangeAt Go.RowKit
def StrsAt (w : World) (a : Option Addr) (n : Nat) (ss : List ByteArray) : Prop :=
  n ≤ 8796093022208 ∧ ss.length = n ∧ ∀ i s, ss[i]? = some s → ∃ b off, a = some ⟨b, off, none⟩ ∧ w.cell? ⟨b, off + i, none⟩ = some (.string s)
theorem StrsAt.at {w : World} {a : Option Addr} {n : Nat} {ss : List ByteArray} (h : StrsAt w a n ss) {i : Nat} (hi : i < n) :
    ∃ s b off, ss[i]? = some s ∧ a = some ⟨b, off, none⟩ ∧ w.cell? ⟨b, off + i, none⟩ = some (.string s) := by
  have hi' : i < ss.length := by rw [h.2.1]; exact hi
  obtain ⟨b, off, h1, h2⟩ := h.2.2 i ss[i] (List.getElem?_eq_getElem hi')
  exact ⟨ss[i], b, off, List.getElem?_eq_getElem hi', h1, h2⟩
theorem StrsAt.keep {W w : World} (hb : Ext W w) {a : Option Addr} {n : Nat} {ss : List ByteArray} (h : StrsAt W a n ss) : StrsAt w a n ss :=
  ⟨h.1, h.2.1, fun i s hs => let ⟨b, off, h1, h2⟩ := h.2.2 i s hs; ⟨b, off, h1, YtpgbenijjodoeaaGreat.keep hb h2⟩⟩
theorem smap_ne {w : World} {mb : Nat} {f : ByteArray → Option Value} (h : SMap w mb f) {p : Addr} {v : Value} (hp : w.cell? p = some v) : p.block ≠ mb := by
  intro e
  obtain ⟨es, clock, h1, _⟩ := h
  rw [← e] at h1
  simp [World.cell?, h1] at hp
def without (f : ByteArray → Option Value) (ss : List ByteArray) : ByteArray → Option Value := fun x => if x ∈ ss then none else f x
theorem without_snoc (f : ByteArray → Option Value) (ss : List ByteArray) (s : ByteArray) : upd (without f ss) s none = without f (ss ++ [s]) := by
  funext x
  by_cases h : x = s <;> by_cases h2 : x ∈ ss <;> simp [upd, without, h, h2]
def ForgetInv (f : ByteArray → Option Value) (ss : List ByteArray) (n : Nat) (w : World) (mb : Nat) (i : Value) (wr : World) : Prop :=
  ∃ k : Nat, k ≤ n ∧ i = .int .i64 k ∧ w.grownBy wr (some mb) ∧ SMap wr mb (without f (ss.take k))
theorem c_forget (f : ByteArray → Option Value) (ss : List ByteArray) (a : Option Addr) (n cap mb : Nat) (w : World) (hm : SMap w mb f) (hs : StrsAt w a n ss) :
    Calls Tryz.prog 41 #[.map (some mb), .slice a n cap] w fun e w' => e = .returned (.tuple #[]) ∧ w.grownBy w' (some mb) ∧ SMap w' mb (without f ss) := by
  have hn := hs.1
  have HL := Lib.hid hs.2.1
  have HS := Lib.hid hs
  have HM := Lib.hid hm
  clear hs hm
  go_enter Tryz.func41, Tryz.ntmps41
  go_wp2
  go_loopw [8] (fun i wr => ForgetInv f ss n w mb i wr) (fun i _ => n - (intOf i).toNat)
  case atStart => exact ⟨0, by omega, rfl, gb_refl _ _, by have e : without f [] = f := by funext x; simp [without]
                                                           rw [List.take_zero, e]; exact HM.out⟩
  case round =>
    obtain ⟨k, hk, rfl, hg, hsm⟩ := hrel
    by_cases hlt : k < n
    · obtain ⟨s, b, off, hx, rfl, hc⟩ := HS.out.at hlt
      have hc' := hg.cell hc (fun e => smap_ne HM.out hc (Option.some.inj e))
      obtain ⟨o, hrun, hsm'⟩ := run_del (P := Tryz.prog) (t := 90) hsm Tryz.underlying90 Tryz.underlying9 s 0
      rw [without_snoc, ← take_at hx] at hsm'
      have HG := Lib.hid (gb_trans hg (setMap_grown wr mb o))
      have HS' := Lib.hid hsm'
      clear hsm' hx hg hsm hc
      go_wp2
      go_roundw
      case rel => exact ⟨k + 1, by omega, by go_num, HG.out, HS'.out⟩
      case measure => simp [intOf]; omega
    · go_wp2
      go_end0
      have e : ss.take k = ss := List.take_of_length_le (by have := HL.out; omega)
      rw [e] at hsm
      exact ⟨rfl, hg, hsm⟩

def thingV (x : Thing) : Value := .agg #[.int .i64 x.t.kind, .string x.t.text, .int .i64 x.literal, .int .i64 x.place]
def fv (m : TMap) : ByteArray → Option Value := fun k => (m k).map thingV
theorem fv_upd (m : TMap) (k : ByteArray) (x : Thing) : upd (fv m) k (some (thingV x)) = fv (updT m k x) := by
  funext y
  by_cases h : y = k <;> simp [upd, fv, updT, h]
def thingEq (x y : Thing) : Bool := decide (x = y)
theorem eql_thing (x y : Thing) (w : World) : (binOp .eql 120 (.agg #[.int .i64 x.t.kind, .string x.t.text, .int .i64 x.literal, .int .i64 x.place]) (.agg #[.int .i64 y.t.kind, .string y.t.text, .int .i64 y.literal, .int .i64 y.place])).run Tryz.prog w = .ok (.bool (thingEq x y)) w := by
  obtain ⟨⟨k, s⟩, l, p⟩ := x
  obtain ⟨⟨k', s'⟩, l', p'⟩ := y
  have e := toList_eq_iff s s'.toList
  have e2 : (⟨s'.toList.toArray⟩ : ByteArray) = s' := ((toList_eq_iff s' s'.toList).1 rfl).symm
  rw [e2] at e
  simp only [go_sem]
  simp [go_sem]
  by_cases h : k = k' <;> by_cases h2 : s = s' <;> by_cases h3 : l = l' <;> by_cases h4 : p = p' <;> simp [thingEq, h, h2, h3, h4, e]
theorem TermsAt.gb {w wr : World} {a : Option Addr} {n mb : Nat} {ts : List Term} {f : ByteArray → Option Value} (h : TermsAt w a n ts) (hg : w.grownBy wr (some mb)) (hm : SMap w mb f) : TermsAt wr a n ts :=
  ⟨h.1, h.2.keep fun _ _ _ hx => ⟨hg.cell hx.1 (fun e => smap_ne hm hx.1 (Option.some.inj e)), hg.cell hx.2.1 (fun e => smap_ne hm hx.2.1 (Option.some.inj e)), hx.2.2⟩⟩
/-- What lay answers, and what it leaves. -/
def LayPost (m : TMap) (a onto : Atom) (lit : Int) (mb : Nat) (w : World) (e : Ending) (w' : World) : Prop :=
  w.grownBy w' (some mb) ∧
  match lay m a onto lit with
  | none => e = .returned (.tuple #[.slice none 0 0, .bool false]) ∧ SMap w' mb (fv m)
  | some (m', fr) => ∃ v, e = .returned (.tuple #[v, .bool true]) ∧ SMap w' mb (fv m') ∧ w'.ownsRow w.heap.size 9 1 v fr.length (fr.map Value.string)
structure LaySt (m0 : TMap) (W : World) (mb : Nat) (m : TMap) (fr : List ByteArray) (v : Value) (wr : World) : Prop where
  beside : W.grownBy wr (some mb)
  map : SMap wr mb (fv m)
  own : wr.ownsRow W.heap.size 9 1 v fr.length (fr.map Value.string)
  fresh : ∀ x ∈ fr, m0 x = none
  rest : ∀ x, x ∉ fr → m x = m0 x
def LayInv (m0 : TMap) (ts os : List Term) (lit : Int) (n : Nat) (W : World) (mb : Nat) (v i : Value) (wr : World) : Prop :=
  ∃ (k : Nat) (m : TMap) (fr : List ByteArray), k ≤ n ∧ i = .int .i64 k ∧ fr.length ≤ k ∧ LaySt m0 W mb m fr v wr ∧ layGo lit ts os 0 m0 [] = layGo lit (ts.drop k) (os.drop k) k m fr
theorem LayPost.none {m : TMap} {a o : Atom} {lit : Int} {mb : Nat} {w w' : World} (h : lay m a o lit = none) (hg : w.grownBy w' (some mb)) (hs : SMap w' mb (fv m)) :
    LayPost m a o lit mb w (.returned (.tuple #[.slice Option.none 0 0, .bool false])) w' := by
  refine ⟨hg, ?_⟩
  rw [h]
  exact ⟨rfl, hs⟩
theorem LayPost.some {m m' : TMap} {fr : List ByteArray} {a o : Atom} {lit : Int} {mb : Nat} {w w' : World} {v : Value} (h : lay m a o lit = some (m', fr)) (hg : w.grownBy w' (some mb)) (hs : SMap w' mb (fv m')) (ho : w'.ownsRow w.heap.size 9 1 v fr.length (fr.map Value.string)) :
    LayPost m a o lit mb w (.returned (.tuple #[v, .bool true])) w' := by
  refine ⟨hg, ?_⟩
  rw [h]
  exact ⟨v, rfl, hs, ho⟩
theorem own_strs {w : World} {base n : Nat} {v : Value} {fr : List ByteArray} (h : w.ownsRow base 9 1 v n (fr.map Value.string)) (hn : n ≤ 8796093022208) : ∃ a cap, v = .slice a n cap ∧ StrsAt w a n fr := by
  have hl : fr.length = n := by have := h.1; simpa using this
  rcases h.2 with ⟨rfl, rfl⟩ | ⟨g, cap, cur, rfl, hb, hg, hnc, hcm, hcs, htk⟩
  · obtain rfl : fr = [] := List.eq_nil_of_length_eq_zero hl
    exact ⟨none, 0, rfl, by omega, rfl, by simp⟩
  · refine ⟨_, cap, rfl, hn, hl, fun i s hs => ⟨g, 0, rfl, ?_⟩⟩
    have := h.cells (g := g) rfl i (.string s) (by simp [hs])
    rw [Addr.add_lit] at this
    exact this
theorem gb_own {W w w' : World} {mb : Nat} {v : Value} (h : W.grownBy w (some mb)) (k : w.grownBy w' v.ownBlock) (ho : ∀ g, v.ownBlock = some g → W.heap.size ≤ g) : W.grownBy w' (some mb) :=
  ⟨k.os.trans h.os, k.tape.trans h.tape, k.output.trans h.output, Nat.le_trans h.size k.size, fun i hi hne => (k.block i (Nat.lt_of_lt_of_le hi h.size) (fun e => by have := ho i e.symm; omega)).trans (h.block i hi hne)⟩
theorem smap_gb {w w' : World} {mb : Nat} {f : ByteArray → Option Value} {row : Option Nat} (h : SMap w mb f) (k : w.grownBy w' row) (hne : some mb ≠ row) : SMap w' mb f := by
  obtain ⟨es, clock, h1, h2, h3⟩ := h
  exact ⟨es, clock, by rw [k.block mb (Array.getElem?_eq_some_iff.1 h1).1 hne]; exact h1, h2, h3⟩
theorem info_string : (Tryz.prog.info? 9).map (fun i => (i.zero, i.size, i.bytes)) = some (some (.string ⟨#[]⟩), 1, 16) := by kernel_rfl
theorem zero_thing (w : World) : (zeroValue 120).run Tryz.prog w = .ok (.agg #[.int .i64 0, .string ⟨#[]⟩, .int .i64 0, .int .i64 0]) w := by kernel_rfl
theorem layGo_step {lit : Int} {ts os : List Term} {k : Nat} {t o : Term} {m : TMap} {fr : List ByteArray} (ht : ts.drop k = t :: ts.drop (k + 1)) (ho : os.drop k = o :: os.drop (k + 1)) :
    layGo lit (ts.drop k) (os.drop k) k m fr = if t.kind = 3 then (if o = t then layGo lit (ts.drop (k + 1)) (os.drop (k + 1)) (k + 1) m fr else none)
      else if t.kind = 1 then
        match m t.text with
        | none => layGo lit (ts.drop (k + 1)) (os.drop (k + 1)) (k + 1) (updT m t.text (thingOf o lit k)) (fr ++ [t.text])
        | some y => if y = thingOf o lit k then layGo lit (ts.drop (k + 1)) (os.drop (k + 1)) (k + 1) m fr else none
      else layGo lit (ts.drop (k + 1)) (os.drop (k + 1)) (k + 1) m fr := by
  rw [ht, ho, layGo]
  rfl
theorem LaySt.undo {m0 m : TMap} {W wr : World} {mb : Nat} {fr : List ByteArray} {v : Value} (h : LaySt m0 W mb m fr v wr) : without (fv m) fr = fv m0 := by
  funext x
  by_cases hx : x ∈ fr
  · simp [without, hx, fv, h.fresh x hx]
  · simp [without, hx, fv, h.rest x hx]
theorem LaySt.grow {m0 m : TMap} {W wr w2 : World} {mb : Nat} {fr : List ByteArray} {v : Value} (h : LaySt m0 W mb m fr v wr) (k : Ext wr w2) : LaySt m0 W mb m fr v w2 :=
  ⟨gb_trans h.beside (gb_of_ext k _), h.map.ext k, h.own.kept (gb_of_ext k none) (by cases v.ownBlock <;> simp), h.fresh, h.rest⟩
set_option maxRecDepth 100000 in
set_option maxHeartbeats 2000000 in
theorem c_lay (m0 : TMap) (a o : Atom) (aa ao : Option Addr) (na ca no co : Nat) (lit : Int) (mb : Nat) (w : World) (hm : SMap w mb (fv m0)) (ha : TermsAt w aa na a.terms) (ho : TermsAt w ao no o.terms) :
    Calls Tryz.prog 40 #[.map (some mb), .agg #[.string a.pred, .slice aa na ca], .agg #[.string o.pred, .slice ao no co], .int .i64 lit] w (LayPost m0 a o lit mb w) := by
  have hn := ha.1
  have LA := Lib.hid ha.2.1
  have LO := Lib.hid ho.2.1
  have HA := Lib.hid ha
  have HO := Lib.hid ho
  have HM := Lib.hid hm
  clear ha ho hm
  obtain ⟨b1, e1⟩ : ∃ b, (a.pred.toList == o.pred.toList) = b := ⟨_, rfl⟩
  obtain ⟨b2, e2⟩ : ∃ b, ((na : Int) != no) = b := ⟨_, rfl⟩
  have fin : Hid (lay m0 a o lit = if (b1 && !b2) = true then layGo lit a.terms o.terms 0 m0 [] else none) := by
    show _ = _
    rw [beq_bytes] at e1
    subst e1 e2
    unfold lay
    rw [LA.out, LO.out]
    by_cases h : a.pred = o.pred <;> by_cases h2 : na = no
    · simp [h, h2]
    · have h3 : ¬ (na : Int) = no := by omega
      simp [h, h2, h3]
    · simp [h, h2]
    · simp [h, h2]
  cases b1 with
  | false =>
    go_enter Tryz.func40, Tryz.ntmps40
    go_wp2
    go_ret2
    exact LayPost.none (by rw [fin.out]; simp) (gb_of_ext (ext_alloc (ext_alloc (Below.refl _ _) _) _) _) (HM.out.ext (ext_alloc (ext_alloc (Below.refl _ _) _) _))
  | true =>
    cases b2 with
    | true =>
      go_enter Tryz.func40, Tryz.ntmps40
      go_wp2
      go_ret2
      exact LayPost.none (by rw [fin.out]; simp) (gb_of_ext (ext_alloc (ext_alloc (Below.refl _ _) _) _) _) (HM.out.ext (ext_alloc (ext_alloc (Below.refl _ _) _) _))
    | false =>
      obtain rfl : na = no := by
        have : (na : Int) = no := by simpa using e2
        omega
      go_enter Tryz.func40, Tryz.ntmps40
      go_wp2
      refine wp_gen (fun W hW => ?_)
      have hb0 : Ext w W := by rw [hW]; go_grown
      have x6 : W.cell? ⟨w.heap.size + 1, 1, none⟩ = some (.slice ao na co) := by rw [hW]; go_simp
      have hz : w.heap.size + 1 < W.heap.size := World.block_lt_of_cell? _ _ x6
      have HMW := Lib.hid (HM.out.ext hb0)
      have hmb := HM.out.lt
      have HAW := Lib.hid (HA.out.keep hb0)
      have HOW := Lib.hid (HO.out.keep hb0)
      have fin2 : Hid (lay m0 a o lit = layGo lit a.terms o.terms 0 m0 []) := by
        have h := fin.out
        show _ = _
        simpa using h
      clear hW fin HA HO e1 e2
      go_loopw [10, 34] (fun v i wr => LayInv m0 a.terms o.terms lit na W mb v i wr) (fun _ i _ => na - (intOf i).toNat)
      case atStart => exact ⟨0, m0, [], by omega, rfl, by simp, ⟨gb_refl _ _, HMW.out, World.ownsRow_nil _ _ _ _, by simp, by simp⟩, by simp⟩
      case round =>
        obtain ⟨k, m, fr, hk, rfl, hfr, hst, hq⟩ := hrel
        have y6 := hst.beside.cell x6 (fun e => smap_ne HMW.out x6 (Option.some.inj e))
        have hz1 : w.heap.size + 1 < wr.heap.size := Nat.lt_of_lt_of_le hz hst.beside.size
        have HQ := Lib.hid hq
        have HS := Lib.hid hst
        clear hq hst
        by_cases hlt : k < na
        · obtain ⟨t, bt, off, hx, rfl, hc1, hc2, hc3⟩ := (HAW.out.gb HS.out.beside HMW.out).2.at hlt
          obtain ⟨u, bu, offu, hxu, rfl, hu1, hu2, hu3⟩ := (HOW.out.gb HS.out.beside HMW.out).2.at hlt
          have hz2 := World.block_lt_of_cell? _ _ hu1
          have HSTEP := Lib.hid (layGo_step (lit := lit) (m := m) (fr := fr) (drop_at hx) (drop_at hxu))
          clear hx hxu
          obtain ⟨b3, e3⟩ : ∃ b, (u.kind == 2) = b := ⟨_, rfl⟩
          obtain ⟨L, hL⟩ : ∃ L, L = (thingOf u lit k).literal := ⟨_, rfl⟩
          obtain ⟨Pl, hPl⟩ : ∃ L, L = (thingOf u lit k).place := ⟨_, rfl⟩
          have HL := Lib.hid hL
          have HP := Lib.hid hPl
          clear hL hPl
          go_upto_if 48 with (fail)
          go_cut [] (fun wc => wc = (wr.alloc (.cells #[.int .i64 t.kind, .string t.text] 53)).alloc (.cells #[.int .i64 u.kind, .string u.text, .int .i64 L, .int .i64 Pl] 120))
          case first =>
            cases b3 with
            | true =>
              have hL : lit = L := by have := HL.out; simp only [thingOf] at this; rw [if_pos (by simpa using e3)] at this; exact this.symm
              have hP : (k : Int) = Pl := by have := HP.out; simp only [thingOf] at this; rw [if_pos (by simpa using e3)] at this; exact this.symm
              have HL2 := Lib.hid hL
              have HP2 := Lib.hid hP
              clear hL hP HL HP
              go_wp2
              go_meet
              show World.alloc _ _ = _
              rw [HL2.out, HP2.out]
            | false =>
              have hL : (0 : Int) = L := by have := HL.out; simp only [thingOf] at this; rw [if_neg (by simpa using e3)] at this; exact this.symm
              have hP : (0 : Int) = Pl := by have := HP.out; simp only [thingOf] at this; rw [if_neg (by simpa using e3)] at this; exact this.symm
              have HL2 := Lib.hid hL
              have HP2 := Lib.hid hP
              clear hL hP HL HP
              go_wp2
              go_meet
              rw [← HL2.out, ← HP2.out]
          case rest =>
            subst hcut
            obtain ⟨av, capv, rfl, hstr⟩ := own_strs HS.out.own (by omega)
            have hX : thingOf u lit k = ⟨u, L, Pl⟩ := by rw [HL.out, HP.out]; rfl
            have HX := Lib.hid hX
            clear hX
            have hext : Ext wr ((wr.alloc (.cells #[.int .i64 t.kind, .string t.text] 53)).alloc (.cells #[.int .i64 u.kind, .string u.text, .int .i64 L, .int .i64 Pl] 120)) := ext_alloc (ext_alloc (Below.refl _ _) _) _
            have hsc := Lib.hid (HS.out.grow hext)
            have hstr2 : StrsAt ((wr.alloc (.cells #[.int .i64 t.kind, .string t.text] 53)).alloc (.cells #[.int .i64 u.kind, .string u.text, .int .i64 L, .int .i64 Pl] 120)) av fr.length fr := ⟨hstr.1, hstr.2.1, fun i s hs => let ⟨b, off, h1, h2⟩ := hstr.2.2 i s hs; ⟨b, off, h1, keep hext h2⟩⟩
            have HSTR := Lib.hid hstr2
            clear hstr hstr2 hc1 hc2 hu1 hu2 y6 hext e3
            obtain ⟨b4, e4⟩ : ∃ b, (t.kind == 3) = b := ⟨_, rfl⟩
            obtain ⟨b5, e5⟩ : ∃ b, (t.kind == 1) = b := ⟨_, rfl⟩
            cases b4 with
            | true =>
              obtain ⟨b6, e6⟩ : ∃ b, termEq u.kind u.text t.kind t.text = b := ⟨_, rfl⟩
              have h3 : t.kind = 3 := by simpa using e4
              have h4 := Lib.hid h3
              have eqt := eql_term u.kind t.kind u.text t.text
              rw [e6] at eqt
              have E6 := Lib.hid e6
              clear h3 e6
              cases b6 with
              | true =>
                go_wp2
                go_roundw
                case rel => exact ⟨k + 1, m, fr, by omega, by go_num, by omega, hsc.out, by rw [HQ.out, HSTEP.out, if_pos h4.out, if_pos (by have := E6.out; rw [termEq_iff] at this; simpa using this)]⟩
                case measure => simp [intOf]; omega
              | false =>
                go_wp2_with (go_at_call 41; (with_reducible refine (c_forget (fv m) fr _ _ _ mb _ hsc.out.map HSTR.out).mono ?_); rintro e w2 ⟨rfl, hg2, hs2⟩)
                go_ret2
                rw [HS.out.undo] at hs2
                refine LayPost.none ?_ (gb_trans (gb_of_ext hb0 _) (gb_trans hsc.out.beside hg2)) hs2
                rw [fin2.out, HQ.out, HSTEP.out, if_pos h4.out, if_neg (by have := E6.out; rw [termEq_iff] at this; simpa using this)]
            | false =>
              have h3 : ¬ t.kind = 3 := by simpa using e4
              have N3 := Lib.hid h3
              clear h3
              cases b5 with
              | false =>
                have h1 : ¬ t.kind = 1 := by simpa using e5
                have N1 := Lib.hid h1
                clear h1
                go_wp2
                go_roundw
                case rel => exact ⟨k + 1, m, fr, by omega, by go_num, by omega, hsc.out, by rw [HQ.out, HSTEP.out, if_neg N3.out, if_neg N1.out]⟩
                case measure => simp [intOf]; omega
              | true =>
                have h1 : t.kind = 1 := by simpa using e5
                have N1 := Lib.hid h1
                clear h1
                have hlk := run_look (P := Tryz.prog) (t := 90) hsc.out.map Tryz.underlying90 Tryz.underlying9 (zero_thing _) t.text true
                cases hmt : m t.text with
                | some y =>
                  have hf : fv m t.text = some (thingV y) := by simp [fv, hmt]
                  rw [hf] at hlk
                  simp only [Option.getD_some, Option.isSome_some, if_true, thingV] at hlk
                  have HMT := Lib.hid hmt
                  obtain ⟨b6, e6⟩ : ∃ b, thingEq y (thingOf u lit k) = b := ⟨_, rfl⟩
                  have eq := eql_thing y (thingOf u lit k)
                  rw [e6, HX.out] at eq
                  have E6 := Lib.hid e6
                  clear hf hmt e6
                  cases b6 with
                  | true =>
                    go_wp2
                    go_roundw
                    case rel => exact ⟨k + 1, m, fr, by omega, by go_num, by omega, hsc.out.grow (ext_alloc (Below.refl _ _) _), by
                      rw [HQ.out, HSTEP.out, if_neg N3.out, if_pos N1.out, HMT.out]
                      exact if_pos (by have := E6.out; simpa [thingEq] using this)⟩
                    case measure => simp [intOf]; omega
                  | false =>
                    go_wp2_with (go_at_call 41; (with_reducible refine (c_forget (fv m) fr _ _ _ mb _ (hsc.out.map.ext (ext_alloc (Below.refl _ _) _)) (HSTR.out.keep (ext_alloc (Below.refl _ _) _))).mono ?_); rintro e w2 ⟨rfl, hg2, hs2⟩)
                    go_ret2
                    rw [HS.out.undo] at hs2
                    refine LayPost.none ?_ (gb_trans (gb_of_ext hb0 _) (gb_trans (gb_trans hsc.out.beside (World.grownBy_alloc _ _ _)) hg2)) hs2
                    rw [fin2.out, HQ.out, HSTEP.out, if_neg N3.out, if_pos N1.out, HMT.out]
                    exact if_neg (by have := E6.out; simpa [thingEq] using this)
                | none =>
                  have hf : fv m t.text = none := by simp [fv, hmt]
                  rw [hf] at hlk
                  simp only [Option.getD_none, Option.isSome_none, if_true] at hlk
                  have HMT := Lib.hid hmt
                  clear hf hmt
                  have hst3 := hsc.out.grow (ext_alloc (Below.refl _ _) (.cells #[.int .i64 0, .string ⟨#[]⟩, .int .i64 0, .int .i64 0] 120))
                  obtain ⟨om, hrun, hsm⟩ := run_upd (P := Tryz.prog) (t := 90) hst3.map Tryz.underlying90 Tryz.underlying9 t.text (thingV ⟨u, L, Pl⟩)
                  have y12 := setMap_cell (o := om) hst3.map ⟨wr.heap.size, 1, none⟩ (v := .string t.text) (by go_simp)
                  have hgm := setMap_grown (((wr.alloc (.cells #[.int .i64 t.kind, .string t.text] 53)).alloc (.cells #[.int .i64 u.kind, .string u.text, .int .i64 L, .int .i64 Pl] 120)).alloc (.cells #[.int .i64 0, .string ⟨#[]⟩, .int .i64 0, .int .i64 0] 120)) mb om
                  have hmW : mb < W.heap.size := HMW.out.lt
                  have hownm := hst3.own.kept hgm (by
                    rcases hst3.own.lt with hlt'
                    cases hv : (Value.slice av fr.length capv).ownBlock with
                    | none => exact .inl rfl
                    | some g => exact .inr (by have := (hlt' g hv).1; intro e; cases e; omega))
                  have hbm := gb_trans hst3.beside hgm
                  generalize setMap _ mb om = Wm at hrun hsm y12 hgm hownm hbm
                  have hzm : wr.heap.size < Wm.heap.size := World.block_lt_of_cell? _ _ y12
                  have hWm : W.heap.size ≤ Wm.heap.size := hbm.size
                  rw [fv_upd] at hsm
                  simp only [thingV] at hrun
                  obtain ⟨i0, hi, hz0, hz1', hz2'⟩ := info_parts info_string
                  have HSM := Lib.hid hsm
                  have HBM := Lib.hid hbm
                  clear hsm hbm hgm hst3
                  go_wp2_with (at_builtin; refine wpList_append_own _ rfl _ _ 46 rfl W.heap.size 9 i0 (.string ⟨#[]⟩) 1 16 Tryz.underlying46 hi hz0 hz1' hz2' rfl (by decide) _ _ _ rfl (hownm.alloc _) ⟨Wm.heap.size, 0, none⟩ 1 1 [.string t.text] rfl rfl ?c1 ?c2 ?c3 ?c4 ?c5 ?_)
                  case c2 => rfl
                  case c3 => unfold maxLen; omega
                  case c4 => omega
                  case c5 => omega
                  intro v' w3 hown' hgw _
                  have hge : ∀ g, (Value.slice av fr.length capv).ownBlock = some g → W.heap.size ≤ g := fun g hg => (hownm.lt g hg).1
                  have hst4 : LaySt m0 W mb (updT m t.text ⟨u, L, Pl⟩) (fr ++ [t.text]) v' w3 := by
                    refine ⟨gb_own (gb_trans HBM.out (World.grownBy_alloc _ _ _)) hgw hge, smap_gb (HSM.out.ext (ext_alloc (Below.refl _ _) _)) hgw ?_, by simpa using hown', ?_, ?_⟩
                    · intro e
                      have := hge mb e.symm
                      omega
                    · intro x hx
                      rcases List.mem_append.1 hx with h | h
                      · exact HS.out.fresh x h
                      · simp at h
                        subst h
                        by_cases h2 : t.text ∈ fr
                        · exact HS.out.fresh _ h2
                        · rw [← HS.out.rest _ h2]; exact HMT.out
                    · intro x hx
                      simp at hx
                      simp only [updT, if_neg hx.2]
                      exact HS.out.rest x hx.1
                  have H4 := Lib.hid hst4
                  clear hst4 hgw hown' hownm hge
                  go_wp2
                  go_roundw
                  case rel => exact ⟨k + 1, updT m t.text ⟨u, L, Pl⟩, fr ++ [t.text], by omega, by go_num, by simp; omega, H4.out, by
                    rw [HQ.out, HSTEP.out, if_neg N3.out, if_pos N1.out, HMT.out, HX.out]⟩
                  case measure => simp [intOf]; omega
        · go_wp2
          go_ret2
          have h1 : a.terms.drop k = [] := List.drop_of_length_le (by have := LA.out; omega)
          refine LayPost.some (m' := m) (fr := fr) ?_ (gb_trans (gb_of_ext hb0 _) HS.out.beside) HS.out.map (own_base HS.out.own hb0.size)
          rw [fin2.out, HQ.out, h1]
          rfl
end Go.Proofs.YtpgbenijjodoeaaGreat.K
