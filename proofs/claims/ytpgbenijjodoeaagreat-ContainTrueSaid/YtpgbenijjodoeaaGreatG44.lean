/- The walk of the join's Head. Plain laws for Facts: the bindings of a rule over a base; the head's row. The walk of the join's Facts. -/
import Derived.Test.YtpgbenijjodoeaaGreatG17
import Derived.Test.YtpgbenijjodoeaaGreatG31
import Derived.Test.YtpgbenijjodoeaaGreatG32
import Derived.Test.YtpgbenijjodoeaaGreatG41
import Derived.Test.YtpgbenijjodoeaaGreatG43
namespace Go.Proofs.YtpgbenijjodoeaaGreat
open Go.ChangeShapes Go.WideShapes Go.ChangeAt Go.RowKit
open K (Term Atom Rule TermsAt LitsAt RuleV termAt litAt)
/-- The head's row for a binding. -/
def headStep (names : List ByteArray) (x : List ByteArray) (out : List ByteArray) (t : Term) : List ByteArray := if t.kind = 3 then out ++ [t.text] else if t.kind = 1 then out ++ [gtB x (idxB names t.text).toNat] else out
where gtB (x : List ByteArray) (v : Nat) : ByteArray := x[v]?.getD ⟨#[]⟩
def headRow (r : Rule) (x : List ByteArray) : List ByteArray := r.head.terms.foldl (headStep (varsR r) x) []
theorem first_of {xs : List ByteArray} {t : ByteArray} (h : t ∈ xs) : ∃ k : Nat, idxB xs t = (k : Int) ∧ xs[k]? = some t := idxB_mem h
theorem check_head {r : Rule} (h : checkR r = 0) : r.head.terms.length ≤ 64 ∧ ∀ t ∈ r.head.terms, safeT (varsR r) t false = true := by
  unfold checkR at h
  split at h
  · cases h
  · rename_i h1
    split at h
    · cases h
    · split at h
      · cases h
      · rename_i h3
        refine ⟨?_, fun t ht => ?_⟩
        · have q : headOk r.head.terms = true := by simpa using h1
          unfold headOk at q
          simp only [Bool.and_eq_true, decide_eq_true_eq] at q
          exact q.2.2
        · by_cases q : safeT (varsR r) t false = true
          · exact q
          · exact absurd (List.any_eq_true.2 ⟨t, ht, by unfold badHead; simpa using q⟩) h3
def HeadPost (r : Rule) (x : List ByteArray) (w : World) (e : Ending) (w' : World) : Prop := ∃ a c, e = .returned (.tuple #[.slice a (headRow r x).length c, .int .i64 0]) ∧ StrsAt w' a (headRow r x).length (headRow r x) ∧ (a = none → (headRow r x).length = 0 ∧ c = 0) ∧ Ext w w'
set_option maxRecDepth 100000 in
set_option maxHeartbeats 4000000 in
theorem c_head_ (r : Rule) (ah : Option Addr) (nh ch : Nat) (ab : Option Addr) (nb cb : Nat) (x : List ByteArray) (ax : Option Addr) (n cx : Nat) (w : World) (hr : RuleV w r ah nh ch ab nb cb) (hx : StrsAt w ax n x) (hn : (varsR r).length = n) (hvl : (varsR r).length ≤ 1000000) (hchk : checkR r = 0) :
    Calls Tryz.prog 29 #[.agg #[.string r.head.pred, .slice ah nh ch, .slice ab nb cb], .slice ax n cx] w (HeadPost r x w) := by
  obtain ⟨i0, hi, hz0, hz1, hz2⟩ := info_parts info_str
  have HR := Lib.hid hr
  have HX := Lib.hid hx
  have HN := Lib.hid hn
  have HH := Lib.hid (check_head hchk)
  have HLH := Lib.hid hr.terms.2.1
  have hnh := hr.terms.1
  obtain ⟨w1, hw1⟩ : ∃ w1, w1 = w.alloc (.cells #[.string r.head.pred, .slice ah nh ch, .slice ab nb cb] 27) := ⟨_, rfl⟩
  have E1 : Hid (Ext w w1) := by show Ext _ _; rw [hw1]; exact ext_alloc (Below.refl _ _) _
  have C1 : Hid (w1.cell? ⟨w.heap.size, 0, none⟩ = some (.string r.head.pred) ∧ w1.cell? ⟨w.heap.size, 1, none⟩ = some (.slice ah nh ch) ∧ w1.cell? ⟨w.heap.size, 2, none⟩ = some (.slice ab nb cb)) := by refine ⟨?_, ?_, ?_⟩ <;> (rw [hw1]; go_simp)
  have CK : Hid (∀ w2, Ext w1 w2 → Calls Tryz.prog 24 #[.agg #[.string r.head.pred, .slice ah nh ch, .slice ab nb cb]] w2 fun e w' => e = .returned (.int .i64 0) ∧ Ext w2 w') := fun w2 e => by
    have := c_check r ah nh ch ab nb cb w2 (HR.out.keep (ext_trans E1.out e)) hvl
    unfold CheckPost at this
    rw [hchk] at this
    exact this
  have VR : Hid (Calls Tryz.prog 47 #[.agg #[.string r.head.pred, .slice ah nh ch, .slice ab nb cb]] w1 (VarsPost (varsR r) w1)) := c_vars r ah nh ch ab nb cb w1 (HR.out.keep E1.out) hvl
  have hnn : ((n : Int) != (n : Int)) = false := by simp
  rw [hw1] at VR
  clear hr hx hchk
  go_enter Tryz.func29, Tryz.ntmps29
  go_wp2_with (first
    | (go_at_call 47; (with_reducible refine VR.out.mono ?_); rintro e w3 ⟨av, cv, rfl, sv, nv, ov, e3⟩; rw [← hw1] at e3; rw [hn] at sv nv ov; rw [hn]; have k0 := keep e3 C1.out.1; have k1 := keep e3 C1.out.2.1; have k2 := keep e3 C1.out.2.2)
    | (go_at_call 24; (with_reducible refine (CK.out _ e3).mono ?_); rintro e w4 ⟨rfl, e4⟩; have m1 := keep e4 k1))
  have EW4 : Hid (Ext w w4) := ext_trans E1.out (ext_trans e3 e4)
  have SV := Lib.hid (sv.keep e4)
  have HXW := Lib.hid (HX.out.keep EW4.out)
  have HNN := Lib.hid (show n ≤ 1000000 by rw [← hn]; exact hvl)
  clear e3 e4 k0 k1 k2 m1 sv nv ov hw1 CK VR hnn hvl C1
  have hnx : x.length = n := HX.out.2.1
  have HXL := Lib.hid hnx
  clear hnx hn
  have hn1 : n ≤ 9223372036854775807 := HX.out.1
  go_loopw [7, 26] (fun v u wj => ∃ k : Nat, k ≤ nh ∧ u = .int .i64 k ∧ Ext w4 wj ∧ ∃ out : List ByteArray, out = (r.head.terms.take k).foldl (headStep (varsR r) x) [] ∧ out.length ≤ k ∧ wj.ownsRow w4.heap.size 9 1 v out.length (out.map Value.string)) (fun _ u _ => nh - (intOf u).toNat)
  case atStart => exact ⟨0, by omega, rfl, Below.refl _ _, [], by simp, by simp, World.ownsRow_nil _ _ _ _⟩
  case round =>
    obtain ⟨k, hk, rfl, hE, out, hout, hol, hown⟩ := hrel
    obtain ⟨a3, c3, hv3, _⟩ := own_form hown
    subst hv3
    have HOUT := Lib.hid hout
    have HE := Lib.hid hE
    have OW := Lib.hid hown
    clear hout hE hown
    have hl64 := HH.out.1
    have HZ : Hid (w4.heap.size ≤ wr.heap.size) := HE.out.size
    by_cases hlt : k < nh
    · have hki : (k : Int) < (nh : Int) := by omega
      have hnh64 : nh ≤ 64 := by have := HLH.out; omega
      obtain ⟨t, bt, ot, hx, rfl, hc1, hc2, hc3⟩ := (HR.out.terms.keep (ext_trans EW4.out HE.out)).2.at hlt
      have HTK : Hid ((r.head.terms.take (k + 1)).foldl (headStep (varsR r) x) [] = headStep (varsR r) x out t) := by
        show _ = _
        rw [take_at hx, List.foldl_append, ← HOUT.out]
        rfl
      have HSF := Lib.hid (HH.out.2 t (List.mem_of_getElem? hx))
      clear hx
      have EA : Hid (∀ o, Ext wr (wr.alloc o)) := fun o => ext_alloc (Below.refl _ _) o
      obtain ⟨b3, e3⟩ : ∃ b, (t.kind == 3) = b := ⟨_, rfl⟩
      obtain ⟨b1, e1⟩ : ∃ b, (t.kind == 1) = b := ⟨_, rfl⟩
      have K3 : Hid ((t.kind = 3) ↔ b3 = true) := by show _ ↔ _; rw [← e3]; simp
      have K1 : Hid ((t.kind = 1) ↔ b1 = true) := by show _ ↔ _; rw [← e1]; simp
      cases b3 with
      | true =>
        have HQ : Hid (headStep (varsR r) x out t = out ++ [t.text]) := by show _ = _; unfold headStep; rw [if_pos (K3.out.2 rfl)]
        go_wp2_with (at_builtin; go_loud (refine wpList_append_lies _ rfl _ _ 46 rfl w4.heap.size 9 i0 (.string ⟨#[]⟩) 1 16 Tryz.underlying46 hi hz0 hz1 hz2 rfl (by decide) _ out.length (out.map Value.string) rfl (up_ext OW.out (ext_alloc (ext_alloc (Below.refl _ _) _) _)) ⟨wr.heap.size + 1, 0, none⟩ 1 1 [.string t.text] rfl rfl (by have := news1 (wr.alloc (.cells #[.int .i64 t.kind, .string t.text] 53)) (.string t.text) 9; simpa using this) (fun x hx => by cases List.mem_singleton.1 hx; rfl) (Nat.zero_lt_one) (by unfold maxLen; omega) (by omega) (Nat.le_trans HZ.out (ext_alloc (ext_alloc (Below.refl _ _) _) _).size) _ rfl ?_); intro g7 p7 w7 own7 q7 hat7 hlt7)
        go_roundw
        case rel =>
          exact ⟨k + 1, by omega, by go_num, ext_ownB (ext_trans HE.out (ext_alloc (ext_alloc (Below.refl _ _) _) _)) q7 (fun g hg => (OW.out.lt g hg).1), out ++ [t.text], by rw [HTK.out, HQ.out], by simp; omega, by rw [List.length_append, List.map_append]; exact own7⟩
        case measure => simp [intOf]; omega
      | false =>
        cases b1 with
        | false =>
          have HQ : Hid (headStep (varsR r) x out t = out) := by show _ = _; unfold headStep; rw [if_neg (fun h => absurd (K3.out.1 h) (by simp)), if_neg (fun h => absurd (K1.out.1 h) (by simp))]
          go_wp2
          go_roundw
          case rel => exact ⟨k + 1, by omega, by go_num, ext_trans HE.out (EA.out _), out, by rw [HTK.out, HQ.out], by omega, up_ext OW.out (EA.out _)⟩
          case measure => simp [intOf]; omega
        | true =>
          have hmem : t.text ∈ varsR r := by
            have q := HSF.out
            unfold safeT at q
            have k1 := K1.out.2 rfl
            rw [if_neg (by omega), if_neg (by omega)] at q
            exact of_decide_eq_true q
          obtain ⟨kx, hkx, hkt⟩ := first_of hmem
          have hkl : kx < n := by have := (List.getElem?_eq_some_iff.1 hkt).1; rw [HN.out] at this; exact this
          obtain ⟨y, b9, o9, hy, hb9, hy2⟩ := (HXW.out.keep HE.out).2.at (i := kx) hkl
          subst hb9
          rw [Nat.mul_one] at hy2
          have yc := fun o => keep (EA.out o) (show wr.cell? ⟨b9, o9 + kx, none⟩ = some (.string y) from hy2)
          have HQ : Hid (headStep (varsR r) x out t = out ++ [y]) := by
            show _ = _
            unfold headStep
            rw [if_neg (fun h => absurd (K3.out.1 h) (by simp)), if_pos (K1.out.2 rfl), hkx]
            unfold headStep.gtB
            rw [show ((kx : Nat) : Int).toNat = kx by omega, hy]
            rfl
          have IX : Hid (∀ o, Calls Tryz.prog 54 #[.slice av n cv, .string t.text] (wr.alloc o) fun e w' => e = .returned (.int .i64 (kx : Nat)) ∧ w' = wr.alloc o) := fun o => by
            have := c_indexS (varsR r) t.text av n cv (wr.alloc o) (SV.out.keep (ext_trans HE.out (EA.out o)))
            rw [hkx] at this
            exact this
          have hkr : (kx : Int) < (n : Int) := by omega
          clear hkt hy hy2 hkx hmem
          go_wp2_with (first
            | (go_at_call 54; (with_reducible refine (IX.out _).mono ?_); rintro e w2 ⟨rfl, hw2⟩; obtain rfl := hw2.symm)
            | (at_builtin; go_loud (refine wpList_append_lies _ rfl _ _ 46 rfl w4.heap.size 9 i0 (.string ⟨#[]⟩) 1 16 Tryz.underlying46 hi hz0 hz1 hz2 rfl (by decide) _ out.length (out.map Value.string) rfl (up_ext OW.out (ext_alloc (ext_alloc (Below.refl _ _) _) _)) ⟨wr.heap.size + 1, 0, none⟩ 1 1 [.string y] rfl rfl (by have := news1 (wr.alloc (.cells #[.int .i64 t.kind, .string t.text] 53)) (.string y) 9; simpa using this) (fun x hx => by cases List.mem_singleton.1 hx; rfl) (Nat.zero_lt_one) (by unfold maxLen; omega) (by omega) (Nat.le_trans HZ.out (ext_alloc (ext_alloc (Below.refl _ _) _) _).size) _ rfl ?_); intro g7 p7 w7 own7 q7 hat7 hlt7))
          go_roundw
          case rel =>
            exact ⟨k + 1, by omega, by go_num, ext_ownB (ext_trans HE.out (ext_alloc (ext_alloc (Below.refl _ _) _) _)) q7 (fun g hg => (OW.out.lt g hg).1), out ++ [y], by rw [HTK.out, HQ.out], by simp; omega, by rw [List.length_append, List.map_append]; exact own7⟩
          case measure => simp [intOf]; omega
    · obtain rfl : k = nh := by omega
      have hge : ¬ (k : Int) < (k : Int) := by omega
      have hfull : out = headRow r x := by
        rw [HOUT.out, List.take_of_length_le (by have := HLH.out; omega)]
        rfl
      subst hfull
      have CL := Lib.hid (c_clipS a3 (headRow r x).length c3 wr (cap_of_own OW.out).1 (fun h => ((cap_of_own OW.out).2 h).2))
      go_wp2_with (go_at_call 55; (with_reducible refine CL.out.mono ?_); rintro e w2 ⟨rfl, hw2⟩; obtain rfl := hw2.symm)
      go_ret2
      exact ⟨a3, _, rfl, own_strs OW.out (own_len OW.out).1, fun h => ⟨((cap_of_own OW.out).2 h).1, ((cap_of_own OW.out).2 h).1⟩, ext_trans EW4.out HE.out⟩
end Go.Proofs.YtpgbenijjodoeaaGreat
namespace Go.Proofs.YtpgbenijjodoeaaGreat
open K (Term Atom Rule)
theorem mayRow_iff (xs : List ByteArray) : mayRow xs = true ↔ ∀ x ∈ xs, x.size ≤ 4096 := by
  unfold mayRow
  rw [Bool.not_eq_true', List.any_eq_false]
  constructor
  · intro h x hx
    have := h x hx
    simp at this
    omega
  · intro h x hx
    have := h x hx
    simp
    omega
theorem gt_small {q : List ByteArray} (h : mayRow q = true) (i : Nat) : (gt q i).size ≤ 4096 := by
  unfold gt
  cases hq : q[i]? with
  | none => show (ByteArray.mk #[]).size ≤ 4096; decide
  | some y => exact (mayRow_iff q).1 h y (List.mem_of_getElem? hq)
/-- A row fits an atom, and so is what its variables are. -/
def LaysTo (names : List ByteArray) (ts : List Term) (q y : List ByteArray) : Prop := q.length = ts.length ∧ fitsT ts q = true ∧ outT names ts (tVars names ts) q = y
theorem laid_mem (names : List ByteArray) (ts : List Term) (y : List ByteArray) : ∀ (rs acc : List (List ByteArray)), RelOk (tVars names ts).length acc → acc.length + rs.length ≤ 65536 → (∀ q ∈ rs, mayRow q = true) → (y ∈ rs.foldl (laidStep names ts) acc ↔ y ∈ acc ∨ ∃ q ∈ rs, LaysTo names ts q y) := by
  intro rs
  induction rs with
  | nil => intro acc _ _ _; simp
  | cons q rs ih =>
    intro acc ha hl hr
    rw [List.length_cons] at hl
    have hrs : ∀ q ∈ rs, mayRow q = true := fun x hx => hr x (by simp [hx])
    rw [List.foldl_cons]
    by_cases hc : q.length = ts.length ∧ fitsT ts q = true
    · have he : addErr (tVars names ts).length acc (outT names ts (tVars names ts) q) = 0 := by
        unfold addErr
        rw [if_neg (by unfold outT; simp), if_neg, if_neg (by omega)]
        have : mayRow (outT names ts (tVars names ts) q) = true := (mayRow_iff _).2 fun x hx => by
          unfold outT at hx
          obtain ⟨v, _, rfl⟩ := List.mem_map.1 hx
          exact gt_small (hr q (by simp)) _
        simp [this]
      have hs : laidStep names ts acc q = putRow acc (outT names ts (tVars names ts) q) := by
        unfold laidStep
        rw [if_pos hc]
        unfold addTo
        rw [if_pos he]
      have hok : RelOk (tVars names ts).length (laidStep names ts acc q) := by
        unfold laidStep
        rw [if_pos hc]
        exact ha.add _
      have hlen : (laidStep names ts acc q).length ≤ acc.length + 1 := by
        rw [hs]
        exact putRow_len _ _
      rw [ih _ hok (by omega) hrs, hs, putRow_mem ha.up]
      constructor
      · rintro ((rfl | h) | ⟨q', h1, h2⟩)
        · exact .inr ⟨q, by simp, hc.1, hc.2, rfl⟩
        · exact .inl h
        · exact .inr ⟨q', by simp [h1], h2⟩
      · rintro (h | ⟨q', h1, h2⟩)
        · exact .inl (.inr h)
        · rcases List.mem_cons.1 h1 with rfl | h1
          · exact .inl (.inl h2.2.2.symm)
          · exact .inr ⟨q', h1, h2⟩
    · have hs : laidStep names ts acc q = acc := by
        unfold laidStep
        rw [if_neg hc]
      rw [hs, ih _ ha (by omega) hrs]
      constructor
      · rintro (h | ⟨q', h1, h2⟩)
        · exact .inl h
        · exact .inr ⟨q', by simp [h1], h2⟩
      · rintro (h | ⟨q', h1, h2⟩)
        · exact .inl h
        · rcases List.mem_cons.1 h1 with rfl | h1
          · exact absurd ⟨h2.1, h2.2.1⟩ hc
          · exact .inr ⟨q', h1, h2⟩
/-- What holds of the relations of a base. -/
def BaseOk (f : RelM) : Prop := ∀ k x, f k = some x → RelOk x.2.1 x.2.2
theorem BaseOk.rows {f : RelM} (h : BaseOk f) (k : ByteArray) : (rowsIn f k).length ≤ 65536 ∧ ∀ q ∈ rowsIn f k, mayRow q = true := by
  unfold rowsIn
  cases hf : f k with
  | none => exact ⟨by simp, by simp⟩
  | some x => exact ⟨(h k x hf).few, fun q hq => ((h k x hf).row q hq).2⟩
theorem lRows_mem {f : RelM} (hf : BaseOk f) (names : List ByteArray) (l : K.Lit) (h64 : (tVars names l.atom.terms).length ≤ 64) (y : List ByteArray) : y ∈ lRows names f l ↔ ∃ q ∈ rowsIn f l.atom.pred, LaysTo names l.atom.terms q y := by
  obtain ⟨h1, h2⟩ := hf.rows l.atom.pred
  have := laid_mem names l.atom.terms y (rowsIn f l.atom.pred) [] (RelOk.nil h64) (by simpa using h1) h2
  unfold lRows laidRows
  rw [this]
  simp
/-- A binding of a rule's variables that is met in a base. -/
def BindOk (r : Rule) (f : RelM) (x : List ByteArray) : Prop := x.length = (varsR r).length ∧ ∀ l ∈ r.body, ∃ q ∈ rowsIn f l.atom.pred, LaysTo (varsR r) l.atom.terms q ((tVars (varsR r) l.atom.terms).map (gt x))
theorem bind_none {r : Rule} {f : RelM} (hf : BaseOk f) (h64 : ∀ l ∈ r.body, (tVars (varsR r) l.atom.terms).length ≤ 64) (h : ∃ l ∈ r.body, lRows (varsR r) f l = []) (x : List ByteArray) : ¬ BindOk r f x := by
  rintro ⟨_, hb⟩
  obtain ⟨l, hl, e⟩ := h
  obtain ⟨q, h1, h2⟩ := hb l hl
  have := (lRows_mem hf (varsR r) l (h64 l hl) _).2 ⟨q, h1, h2⟩
  rw [e] at this
  cases this
theorem bind_iff {r : Rule} {f : RelM} (hf : BaseOk f) (h64 : ∀ l ∈ r.body, (tVars (varsR r) l.atom.terms).length ≤ 64) {ts : List JT} (ht : TabsOk (varsR r) f r.body ts) (hok : ∀ t ∈ ts, t.Ok (varsR r).length) (hall : ∀ v, v < (varsR r).length → ∃ t ∈ ts, v ∈ t.vars) (x : List ByteArray) : x ∈ binds ts (fun _ _ => true) (varsR r).length 0 [] ↔ BindOk r f x := by
  rw [binds_mem hok hall x (varsR r).length 0 [] (by omega) rfl (Live.zero hok [])]
  constructor
  · rintro ⟨h1, _, _, h4⟩
    refine ⟨h1, fun l hl => ?_⟩
    obtain ⟨hne, hex⟩ := ht.has l hl
    by_cases hv : tVars (varsR r) l.atom.terms = []
    · obtain ⟨y, hy⟩ : ∃ y, y ∈ lRows (varsR r) f l := by
        cases hq : lRows (varsR r) f l with
        | nil => exact absurd hq hne
        | cons y ys => exact ⟨y, by simp⟩
      obtain ⟨q, q1, q2, q3, q4⟩ := (lRows_mem hf (varsR r) l (h64 l hl) y).1 hy
      refine ⟨q, q1, q2, q3, ?_⟩
      rw [hv]
      rfl
    · obtain ⟨t, ht1, ht2, ht3⟩ := hex hv
      have := (ht3 _).1 (h4 t ht1)
      rw [ht2] at this
      exact (lRows_mem hf (varsR r) l (h64 l hl) _).1 this
  · rintro ⟨h1, h2⟩
    refine ⟨h1, rfl, fun _ _ _ => rfl, fun t ht1 => ?_⟩
    obtain ⟨_, l, hl, e1, e2⟩ := ht.fro t ht1
    rw [e2, e1]
    exact (lRows_mem hf (varsR r) l (h64 l hl) _).2 (h2 l hl)
/-- What is bound is a legal text. -/
theorem tabs_small {r : Rule} {f : RelM} (h64 : ∀ l ∈ r.body, (tVars (varsR r) l.atom.terms).length ≤ 64) {ts : List JT} (ht : TabsOk (varsR r) f r.body ts) (hall : ∀ v, v < (varsR r).length → ∃ t ∈ ts, v ∈ t.vars) {x : List ByteArray} (hx : x.length = (varsR r).length) (hm : ∀ t ∈ ts, t.vars.map (gt x) ∈ t.rows) : ∀ y ∈ x, y.size ≤ 4096 := by
  intro y hy
  obtain ⟨v, hv⟩ := List.mem_iff_getElem?.1 hy
  have hvl := (List.getElem?_eq_some_iff.1 hv).1
  obtain ⟨t, h1, h2⟩ := hall v (by omega)
  obtain ⟨_, l, hl, e1, e2⟩ := ht.fro t h1
  have h3 := (e2 _).1 (hm t h1)
  have ok := laid_ok (varsR r) l.atom.terms (rowsIn f l.atom.pred) (h64 l hl)
  have h4 := (ok.row _ h3).2
  have h5 := (mayRow_iff _).1 h4 (gt x v) (List.mem_map.2 ⟨v, h2, rfl⟩)
  unfold gt at h5
  rw [hv] at h5
  exact h5
/-- The head's term as a text. -/
def headAt (r : Rule) (x : List ByteArray) (t : Term) : ByteArray := if t.kind = 3 then t.text else gt x (idxB (varsR r) t.text).toNat
theorem head_kinds {r : Rule} (h : checkR r = 0) (ha : r.head.terms.any aggT = false) {t : Term} (ht : t ∈ r.head.terms) : t.kind = 3 ∨ (t.kind = 1 ∧ t.text ∈ varsR r) := by
  have hs := (check_head h).2 t ht
  have hk : ¬ 4 ≤ t.kind := fun q => by
    have := List.any_eq_false.1 ha t ht
    exact this (decide_eq_true q)
  have ho : headOk r.head.terms = true := by
    unfold checkR at h
    split at h
    · cases h
    · rename_i h1; simpa using h1
  unfold headOk at ho
  rw [Bool.and_eq_true] at ho
  have h1 : ¬ (oddH t = true) := List.any_eq_false.1 (by simpa using ho.1) t ht
  unfold oddH at h1
  simp only [Bool.or_eq_true, decide_eq_true_eq, not_or] at h1
  unfold safeT at hs
  split at hs
  · cases hs
  · rename_i h2
    split at hs
    · rename_i h3
      rcases h3 with h3 | h3
      · exact .inl h3
      · omega
    · rename_i h3
      exact .inr ⟨by omega, of_decide_eq_true hs⟩
theorem headRow_eq {r : Rule} (h : checkR r = 0) (ha : r.head.terms.any aggT = false) (x : List ByteArray) : headRow r x = r.head.terms.map (headAt r x) := by
  unfold headRow
  suffices ∀ (ts : List Term) (out : List ByteArray), (∀ t ∈ ts, t ∈ r.head.terms) → ts.foldl (headStep (varsR r) x) out = out ++ ts.map (headAt r x) by simpa using this r.head.terms [] (fun _ h => h)
  intro ts
  induction ts with
  | nil => intro out _; simp
  | cons t ts ih =>
    intro out hts
    rw [List.foldl_cons, ih _ (fun t' h' => hts t' (by simp [h']))]
    have : headStep (varsR r) x out t = out ++ [headAt r x t] := by
      unfold headStep headAt
      rcases head_kinds h ha (hts t (by simp)) with hk | ⟨hk, _⟩
      · rw [if_pos hk, if_pos hk]
      · rw [if_neg (by omega), if_pos hk, if_neg (by omega)]
        rfl
    rw [this]
    simp
theorem headRow_may {r : Rule} (h : checkR r = 0) (ha : r.head.terms.any aggT = false) (hc : ∀ t ∈ r.head.terms, t.text.size ≤ 4096) {x : List ByteArray} (hx : ∀ y ∈ x, y.size ≤ 4096) : (headRow r x).length = r.head.terms.length ∧ mayRow (headRow r x) = true := by
  rw [headRow_eq h ha]
  refine ⟨by simp, (mayRow_iff _).2 fun y hy => ?_⟩
  obtain ⟨t, ht, rfl⟩ := List.mem_map.1 hy
  unfold headAt
  split
  · exact hc t ht
  · exact gt_small ((mayRow_iff x).2 hx) _
end Go.Proofs.YtpgbenijjodoeaaGreat
namespace Go.Proofs.YtpgbenijjodoeaaGreat
open Go.ChangeShapes Go.WideShapes Go.ChangeAt Go.RowKit Go.Shelf
open K (Term Atom Rule TermsAt LitsAt RuleV termAt litAt)
attribute [local go_sem] Oper.semAt_some
def FactsPost (r : Rule) (f : RelM) (w : World) (e : Ending) (w' : World) : Prop := Ext w w' ∧ (e = .returned (.tuple #[.pointer none, .int .i64 4]) ∨ ∃ pr rows, e = .returned (.tuple #[.pointer (some ⟨pr, 0, none⟩), .int .i64 0]) ∧ RowsV w' (pr + 1) pr r.head.terms.length rows ∧ RelOk r.head.terms.length rows ∧ ∀ y, y ∈ rows ↔ ∃ x, BindOk r f x ∧ headRow r x = y)
theorem res_facts (tmps : Array Value) (p4 p5 : Nat) (v4 v5 : Value) (W : World) (h4 : tmps.getD 4 undef = .pointer (some ⟨p4, 0, none⟩)) (h5 : tmps.getD 5 undef = .pointer (some ⟨p5, 0, none⟩)) (c4 : W.cell? ⟨p4, 0, none⟩ = some v4) (c5 : W.cell? ⟨p5, 0, none⟩ = some v5) : (results Tryz.f11 tmps).run Tryz.prog W = .ok (.tuple #[v4, v5]) W := by
  have e4 : tmps[4]?.getD undef = .pointer (some ⟨p4, 0, none⟩) := by rw [← h4]; simp
  have e5 : tmps[5]?.getD undef = .pointer (some ⟨p5, 0, none⟩) := by rw [← h5]; simp
  simp only [results, Tryz.f11]
  go_simp
set_option maxRecDepth 100000 in
set_option maxHeartbeats 4000000 in
theorem c_facts (r : Rule) (ah : Option Addr) (nh ch : Nat) (ab : Option Addr) (nb cb : Nat) (lo bb : Nat) (f : RelM) (w : World) (hr : RuleV w r ah nh ch ab nb cb) (hB : BaseV w lo bb f) (hpos : ∀ l ∈ r.body, l.kind = 1) (hchk : checkR r = 0) (hagg : r.head.terms.any aggT = false) (hc : ∀ t ∈ r.head.terms, t.text.size ≤ 4096) (hvl : (varsR r).length ≤ 1000000) (hnb : nb ≤ 1000000) :
    Calls Tryz.prog 11 #[.agg #[.string r.head.pred, .slice ah nh ch, .slice ab nb cb], .pointer (some ⟨bb, 0, none⟩)] w (FactsPost r f w) := by
  have HL := Lib.hid hr.terms.2.1
  have H64 : Hid (nh ≤ 64) := by have := (check_head hchk).1; rw [HL.out] at this; exact this
  have CK : Hid (∀ W, Ext w W → Calls Tryz.prog 24 #[.agg #[.string r.head.pred, .slice ah nh ch, .slice ab nb cb]] W fun e w' => e = .returned (.int .i64 0) ∧ Ext W w') := fun W hW => by
    have := c_check r ah nh ch ab nb cb W (hr.keep hW) hvl
    unfold CheckPost at this
    rw [hchk] at this
    exact this
  have CT : Hid (∀ W, Ext w W → Calls Tryz.prog 25 #[.slice ah nh ch, .func (.func 26) #[] #[]] W fun e w' => e = .returned (.bool false) ∧ Ext W w') := fun W hW => by
    have := c_contAgg r.head.terms ah nh ch W (hr.terms.keep hW)
    rw [hagg] at this
    exact this
  have EC : Hid (∀ W, Ext w W → Calls Tryz.prog 28 #[.agg #[.string r.head.pred, .slice ah nh ch, .slice ab nb cb], .pointer (some ⟨bb, 0, none⟩)] W (JEachPost r f W)) := fun W hW => c_each r ah nh ch ab nb cb lo bb f W (hr.keep hW) (hB.ext hW) hpos hchk hvl hnb
  have HC := Lib.hid hc
  have HPOS := Lib.hid hpos
  have HAGG := Lib.hid hagg
  have HCHK := Lib.hid hchk
  have HR := Lib.hid hr
  have HB := Lib.hid hB
  have HVL := Lib.hid hvl
  have nbase : ∀ w, (binOp .eql 35 (.pointer (some ⟨bb, 0, none⟩)) (.pointer none)).run Tryz.prog w = .ok (.bool false) w := fun w => by kernel_rfl
  obtain ⟨W1, hW1⟩ : ∃ W1, ((w.alloc (.cells #[.string r.head.pred, .slice ah nh ch, .slice ab nb cb] 27)).alloc (.cells #[.pointer none] 40)).alloc (.cells #[.int .i64 0] 30) = W1 := ⟨_, rfl⟩
  obtain ⟨p2, hp2⟩ : ∃ p, w.heap.size = p := ⟨_, rfl⟩
  have EW1 : Ext w W1 := by rw [← hW1]; exact ext_alloc (ext_alloc (ext_alloc (Below.refl _ _) _) _) _
  have SZ1 : W1.heap.size = p2 + 3 := by rw [← hW1, ← hp2]; simp
  have A3 : W1.heap[p2]? = some (.cells #[.string r.head.pred, .slice ah nh ch, .slice ab nb cb] 27 (0, 0)) := by
    rw [← hW1, ← hp2]
    exact ((ext_alloc (ext_alloc (Below.refl _ _) _) _).block _ (by simp)).trans (heap_alloc_new w _)
  have A0 : W1.cell? ⟨p2, 0, none⟩ = some (.string r.head.pred) := by simp [World.cell?, A3]
  have A1 : W1.cell? ⟨p2, 1, none⟩ = some (.slice ah nh ch) := by simp [World.cell?, A3]
  have A2 : W1.cell? ⟨p2, 2, none⟩ = some (.slice ab nb cb) := by simp [World.cell?, A3]
  have A4 : W1.heap[p2 + 1]? = some (.cells #[.pointer none] 40 (0, 0)) := by
    rw [← hW1, ← hp2]
    have := heap_alloc_new (w.alloc (.cells #[.string r.head.pred, .slice ah nh ch, .slice ab nb cb] 27)) (.cells #[.pointer none] 40)
    refine ((ext_alloc (Below.refl _ _) (.cells #[.int .i64 0] 30)).block _ (by simp)).trans ?_
    simpa using this
  have A5 : W1.heap[p2 + 2]? = some (.cells #[.int .i64 0] 30 (0, 0)) := by
    rw [← hW1, ← hp2]
    have := heap_alloc_new ((w.alloc (.cells #[.string r.head.pred, .slice ah nh ch, .slice ab nb cb] 27)).alloc (.cells #[.pointer none] 40)) (.cells #[.int .i64 0] 30)
    simpa using this
  have HZ := Lib.hid hp2
  have HA := Lib.hid (And.intro A3 (And.intro A4 (And.intro A5 SZ1)))
  clear A3 A4 A5 SZ1
  have NR := Lib.hid (fun W => c_newRows2 nh H64.out W)
  clear hr hB hpos hchk hagg hc hvl hnb
  refine (callsIn_wide (n := 5)).1 ?_
  refine callsIn_of_wp_marks Tryz.func11 rfl trivial ?_
  simp only [Tryz.ntmps11, List.size_toArray, List.length_cons, List.length_nil, Nat.reduceAdd, Nat.reduceSub, Array.replicate_succ, Array.replicate_zero, List.push_toArray, List.append_toArray, List.nil_append, List.cons_append]
  refine wpIn_wide.2 ?_
  have ne0 : ((0 : Int) != 0) = false := by decide
  go_wp2_with (first
    | (go_at_call 24; (with_reducible refine (CK.out W1 EW1).mono ?_); rintro e w2 ⟨rfl, e2⟩; have B0 := keep e2 A0; have B1 := keep e2 A1; have B2 := keep e2 A2; have EW2 : Ext w w2 := ext_trans EW1 e2)
    | (go_at_call 25; (with_reducible refine (CT.out _ EW2).mono ?_); rintro e w3 ⟨rfl, e3⟩; have C0 := keep e3 B0; have C1 := keep e3 B1; have C2 := keep e3 B2; have EW3 : Ext w w3 := ext_trans EW2 e3)
    | (go_at_call 27; (with_reducible refine (NR.out _).mono ?_); rintro e w4 ⟨rfl, v4, t4, i4, e4, s4⟩; have D0 := fun o => keep (ext_alloc (Below.refl _ w4) o) (keep e4 C0); have D1 := fun o => keep (ext_alloc (Below.refl _ w4) o) (keep e4 C1); have D2 := fun o => keep (ext_alloc (Below.refl _ w4) o) (keep e4 C2); have EW4 : Ext w w4 := ext_trans EW3 e4; have EE : Ext w (w4.alloc (.cells #[.pointer (some ⟨w3.heap.size, 0, none⟩)] 40)) := ext_alloc EW4 _)
    | (go_at_call 28; (with_reducible refine (EC.out _ EE).mono ?_); rintro e w7 ⟨bx, rfl, e7, z7, l7, m7⟩))
  obtain ⟨pr, hpr⟩ : ∃ p, w3.heap.size = p := ⟨_, rfl⟩
  obtain ⟨W5, hW5⟩ : ∃ W5, w4.alloc (.cells #[.pointer (some ⟨w3.heap.size, 0, none⟩)] 40) = W5 := ⟨_, rfl⟩
  have E5 : Ext w4 W5 := by rw [← hW5]; exact ext_alloc (Below.refl _ _) _
  have b7 : W5.heap[pr + 1]? = some (.cells #[.pointer (some ⟨pr, 0, none⟩)] 40 (0, 0)) := by
    rw [← hW5, ← hpr, ← s4]
    exact heap_alloc_new w4 _
  have S5 : W5.heap.size = pr + 2 := by rw [← hW5, ← hpr]; simp; omega
  rw [hW5] at e7 z7 m7
  rw [hpr] at v4 i4 ⊢
  have hp3 : p2 + 3 ≤ pr := by have h1 := e2.size; have h2 := e3.size; have h3 := HA.out.2.2.2; omega
  have E17 : Ext W1 w7 := ext_trans e2 (ext_trans e3 (ext_trans e4 (ext_trans E5 e7)))
  have EW7 : Ext w w7 := ext_trans EW1 E17
  have V7 : RowsV w7 (pr + 1) pr nh [] := (v4.ext E5).ext e7
  have I7 : itemB w7 pr = none := by
    obtain ⟨_, _, _, q, _⟩ := v4.row
    rw [item_own (keep (ext_trans E5 e7) q), ← item_own q, i4]
  have z57 := e7.size
  have Q2 : w7.heap[p2]? = some (.cells #[.string r.head.pred, .slice ah nh ch, .slice ab nb cb] 27 (0, 0)) := (E17.block p2 (by have := HA.out.2.2.2; omega)).trans HA.out.1
  have Q4 : w7.heap[p2 + 1]? = some (.cells #[.pointer none] 40 (0, 0)) := (E17.block (p2 + 1) (by have := HA.out.2.2.2; omega)).trans HA.out.2.1
  have Q5 : w7.heap[p2 + 2]? = some (.cells #[.int .i64 0] 30 (0, 0)) := (E17.block (p2 + 2) (by have := HA.out.2.2.2; omega)).trans HA.out.2.2.1
  have Q7 : w7.heap[pr + 1]? = some (.cells #[.pointer (some ⟨pr, 0, none⟩)] 40 (0, 0)) := (e7.block (pr + 1) (by omega)).trans b7
  have VN : ∀ b, ¬ RowB w7 pr b := fun b hb => by
    obtain ⟨a, c, vs, h1, h2, _⟩ := V7.row
    obtain ⟨v, hv, _⟩ := (rowB_of h1 h2).1 hb
    have := h2.1
    rw [List.length_nil, Nat.zero_mul] at this
    rw [List.eq_nil_of_length_eq_zero this] at hv
    cases hv
  have BOK : BaseOk f := fun k x hk => (HB.out.r.rel k x hk).2.2.2
  have L64 : ∀ l ∈ r.body, (tVars (varsR r) l.atom.terms).length ≤ 64 := fun l hl => by
    have h1 := check_lit HCHK.out hl
    unfold litOk at h1
    rw [if_pos (.inl (HPOS.out l hl)), Bool.and_eq_true] at h1
    have h2 := tVars_len (varsR_nodup r) l.atom.terms
    have h3 := of_decide_eq_true h1.1
    omega
  clear hW5 hpr s4 b7 hW1 A0 A1 A2 B0 B1 B2 C0 C1 C2 D0 D1 D2 EW2 EW3 EW4 EE e2 e3 e4 E5 v4 i4 t4 EW1 E17 CK CT NR EC nbase ne0
  refine (wpIn_wide (n := 5)).1 ?_
  refine range_of (gf := 70) (lb := #[.pointer (some ⟨bx, 0, none⟩)]) (by omega) rfl (enters_of Tryz.func70 (by kernel_rfl) rfl) ?_
  intro fn
  obtain ⟨D, hD⟩ : ∃ D, w7.heap.size = D := ⟨_, rfl⟩
  rw [hD]
  generalize hrec : loopOf fn _ _ _ _ D = rc
  obtain ⟨w8, hw8⟩ : ∃ w8, (w7.alloc (.deferred (some []))).alloc (.loop (rc .ready none)) = w8 := ⟨_, rfl⟩
  rw [hw8]
  have E8 : Ext w7 w8 := by rw [← hw8]; exact ext_alloc (ext_alloc (Below.refl _ _) _) _
  have sz8 : w8.heap.size = D + 2 := by rw [← hw8]; simp; omega
  have hl8 : w8.heap[D + 1]? = some (.loop (rc .ready none)) := by
    rw [← hw8]
    have := World.alloc_heap_new (w7.alloc (.deferred (some []))) (.loop (rc .ready none))
    rwa [World.size_alloc, hD] at this
  have hD8 : w8.heap[D]? = some (.deferred (some [])) := by
    rw [← hw8, ← hD]
    exact (Below.heap_alloc _ _ _ (by simp)).trans (World.alloc_heap_new w7 _)
  have x8 := cell_at (W := w8) ((E8.block (pr + 1) (by omega)).trans Q7)
  clear hw8
  have R2 := (E8.block p2 (by omega)).trans Q2
  have R4 := (E8.block (p2 + 1) (by omega)).trans Q4
  have R5 : w8.heap[p2 + 1 + 1]? = _ := (E8.block (p2 + 2) (by omega)).trans Q5
  have R7 := (E8.block (pr + 1) (by omega)).trans Q7
  obtain ⟨T0, te⟩ : ∃ T0 : Nat → Prop, ∀ b, T0 b ↔ (b < pr + 2 ∨ (D ≤ b ∧ b < D + 2)) := ⟨_, fun _ => Iff.rfl⟩
  obtain ⟨K, ke⟩ : ∃ K : Nat → Prop, ∀ b, K b ↔ (b = p2 ∨ b = p2 + 1 ∨ b = p2 + 1 + 1 ∨ b = pr + 1 ∨ b = D) := ⟨_, fun _ => Iff.rfl⟩
  have HW := HZ.out
  have SK : FacK w w8 T0 K pr (D + 1) := ⟨fun b hb => by
    have nt : (¬ Ty w8 b 46 ∧ ¬ Ty w8 b 9) := by
      rcases (ke b).1 hb with rfl | rfl | rfl | rfl | rfl
      · exact ⟨fun ⟨_, _, q⟩ => (by rw [R2] at q; cases q), fun ⟨_, _, q⟩ => (by rw [R2] at q; cases q)⟩
      · exact ⟨fun ⟨_, _, q⟩ => (by rw [R4] at q; cases q), fun ⟨_, _, q⟩ => (by rw [R4] at q; cases q)⟩
      · exact ⟨fun ⟨_, _, q⟩ => (by rw [R5] at q; cases q), fun ⟨_, _, q⟩ => (by rw [R5] at q; cases q)⟩
      · exact ⟨fun ⟨_, _, q⟩ => (by rw [R7] at q; cases q), fun ⟨_, _, q⟩ => (by rw [R7] at q; cases q)⟩
      · exact ⟨fun ⟨_, _, q⟩ => (by rw [hD8] at q; cases q), fun ⟨_, _, q⟩ => (by rw [hD8] at q; cases q)⟩
    rcases (ke b).1 hb with h | h | h | h | h <;> exact ⟨(te b).2 (by omega), by omega, by omega, by omega, nt.1, nt.2, by omega⟩, fun b hb => (te b).2 (by omega), (te pr).2 (by omega), by omega, by omega, (te (D + 1)).2 (by omega)⟩
  have TE := Lib.hid te
  have KE := Lib.hid ke
  have hB0 : ∀ b, T0 b → b < w8.heap.size := fun b hb => by have := (TE.out b).1 hb; omega
  have i8 : ∀ g, itemB w8 pr = some g → T0 g := fun g hg => by
    obtain ⟨_, _, _, q, _⟩ := V7.row
    rw [item_own (keep E8 q), ← item_own q, I7] at hg
    cases hg
  have k8 : ∀ b, RowB w8 pr b → T0 b := fun b hb => by
    obtain ⟨a, c, vs, h1, h2, _⟩ := V7.row
    exact absurd ((rowB_of h1 h2).2 ((rowB_of (keep E8 h1) (up_ext h2 E8)).1 hb)) (VN b)
  have F8 : FacJ w w8 T0 K pr nh T0 [] w8 := ⟨ext_trans EW7 E8, fun _ h => h, fun _ _ => rfl, V7.ext E8, i8, k8⟩
  obtain ⟨J, je⟩ : ∃ J : Taker, ∀ done C W, J done C W ↔ ((∃ rows, RelOk nh rows ∧ (∀ y, y ∈ rows ↔ ∃ x ∈ done, headRow r x = y) ∧ FacJ w w8 T0 K pr nh C rows W) ∧ W.heap[D + 1]? = some (.loop (rc .ready none))) := ⟨_, fun _ _ _ => Iff.rfl⟩
  obtain ⟨Jx, jxe⟩ : ∃ Jx : (Nat → Prop) → World → Prop, ∀ C W, Jx C W ↔ FacX w T0 (p2 + 1) (p2 + 1 + 1) D (D + 1) (rc .done (some .ret)) C W := ⟨_, fun _ _ => Iff.rfl⟩
  have JE := Lib.hid je
  have JXE := Lib.hid jxe
  clear te ke je jxe
  have T4 : T0 (p2 + 1) ∧ T0 (p2 + 1 + 1) ∧ T0 D ∧ T0 (D + 1) := ⟨(TE.out _).2 (by omega), (TE.out _).2 (by omega), (TE.out _).2 (by omega), (TE.out _).2 (by omega)⟩
  have hJ : ∀ done (C T : Nat → Prop) (W W' : World), J done C W → ButS T W W' → (∀ b, T b → ¬ C b) → J done C W' := fun done C T W W' h e hT => by
    obtain ⟨⟨rows, h1, h2, h3⟩, h4⟩ := (JE.out done C W).1 h
    exact (JE.out done C W').2 ⟨⟨rows, h1, h2, h3.but SK e hT⟩, (e.block _ (Array.getElem?_eq_some_iff.1 h4).1 (fun q => hT _ q (h3.sub _ SK.tl))).trans h4⟩
  have hJx : ∀ (C T : Nat → Prop) (W W' : World), Jx C W → ButS T W W' → (∀ b, T b → ¬ C b) → Jx C W' := fun C T W W' h e hT => (JXE.out C W').2 (((JXE.out C W).1 h).but SK.low T4 e hT)
  have h0 : J [] T0 w8 := (JE.out _ _ _).2 ⟨⟨[], RelOk.nil H64.out, fun y => by simp, F8⟩, hl8⟩
  have IT : Hid (Calls Tryz.prog 70 #[.func (.yield (D + 1)) #[] #[], .pointer (some ⟨bx, 0, none⟩)] w8 fun e W => (∃ v, e = .returned v) ∧ ∃ done C, ((∀ x, x ∈ done ↔ BindOk r f x) ∧ J done C W) ∨ Jx C W) := by
    show Calls _ _ _ _ _
    rcases m7 with ⟨m1, m2⟩ | ⟨pm, ts, pts, m1, m2, m3⟩
    · refine (c_over1n (D + 1) bx w8 (keep E8 m2)).mono ?_
      rintro e W ⟨hv, rfl⟩
      exact ⟨hv, [], T0, .inl ⟨fun x => ⟨fun h => by simp at h, fun h => absurd h (bind_none BOK L64 m1 x)⟩, h0⟩⟩
    · refine (c_over1 (D + 1) bx pm w8 (fun W => ∃ C, J (binds ts (fun _ _ => true) (varsR r).length 0 []) C W ∨ Jx C W) (keep E8 m1) (c_all_ T0 pm (varsR r).length (D + 1) ts pts (fun _ _ => true) w8 (m2.later E8 (fun b hb => by have := (TE.out b).1 hb; omega)) hB0 J Jx hJ hJx h0 ?_)).mono ?_
      · intro done x W C a hj hb hC hx hs ho hm
        obtain ⟨⟨rows, h1, h2, F⟩, hl⟩ := (JE.out done C W).1 hj
        have hl' := hl
        rw [← hrec] at hl'
        refine round_of hl' rfl ?_
        rw [hrec]
        obtain ⟨Wb, hWb⟩ : ∃ Wb, W.putObj (D + 1) (.loop (rc .busy none)) = Wb := ⟨_, rfl⟩
        rw [hWb]
        have FB : FacJ w w8 T0 K pr nh C rows Wb := by rw [← hWb]; exact F.turn SK _ hl rfl (by omega)
        have xb : StrsAt Wb a (varsR r).length x := by rw [← hWb]; exact hs.turn hl rfl _
        have bp2 := (FB.same p2 ((KE.out _).2 (.inl rfl))).trans R2
        have d0 : Wb.cell? ⟨p2, 0, none⟩ = some (.string r.head.pred) := by simp [World.cell?, bp2]
        have d1 : Wb.cell? ⟨p2, 1, none⟩ = some (.slice ah nh ch) := by simp [World.cell?, bp2]
        have d2 : Wb.cell? ⟨p2, 2, none⟩ = some (.slice ab nb cb) := by simp [World.cell?, bp2]
        obtain ⟨hm1, hm2⟩ := headRow_may HCHK.out HAGG.out HC.out (tabs_small L64 m3 m2.all hx hm)
        have HD := c_head_ r ah nh ch ab nb cb x a (varsR r).length (varsR r).length Wb (HR.out.keep FB.ext) xb rfl HVL.out HCHK.out
        obtain ⟨t, ht⟩ : ∃ t, headRow r x = t := ⟨_, rfl⟩
        unfold HeadPost at HD
        rw [hm1, ht, HL.out] at HD
        rw [ht] at hm1 hm2
        rw [HL.out] at hm1
        have HDH := Lib.hid HD
        have h04 : addErr nh rows t = 0 ∨ addErr nh rows t = 4 := by
          unfold addErr
          rw [if_neg (by rw [hm1]; simp), if_neg (by rw [hm2]; simp)]
          split
          · exact .inr rfl
          · exact .inl rfl
        have nlt := H64.out
        have AD : Hid (∀ a' c' w2, Ext Wb w2 → StrsAt w2 a' nh t → (a' = none → nh = 0 ∧ c' = 0) → Calls Tryz.prog 30 #[.pointer (some ⟨pr, 0, none⟩), .slice a' nh c'] w2 fun e w' => AddR2 (pr + 1) pr nh rows t w2 e w' ∧ RowN pr w2 w') := fun a' c' w2 e2 s2 n2 => by
          have h9 := FB.up SK e2
          exact c_addR3 (pr + 1) pr nh rows t a' nh c' w2 h9.rows h1.up s2 n2 (by omega) h1.few (World.block_lt_of_cell? w2 ⟨pr, 0, none⟩ h9.rows.c0)
        have k7 : ∀ w2, Ext Wb w2 → w2.cell? ⟨pr + 1, 0, none⟩ = some (.pointer (some ⟨pr, 0, none⟩)) := fun w2 e2 => (cell_at (((FB.up SK e2).same (pr + 1) ((KE.out _).2 (by simp))).trans R7)).1
        have K7 := Lib.hid k7
        have HT := Lib.hid ht
        have F0 := Lib.hid F
        have HLL := Lib.hid hl
        have HCC := Lib.hid hC
        have HWB := Lib.hid hWb
        have H1 := Lib.hid h1
        have H2 := Lib.hid h2
        obtain ⟨er, her⟩ : ∃ er, addErr nh rows t = er := ⟨_, rfl⟩
        unfold AddR2 at AD
        rw [her] at AD h04
        have HER := Lib.hid her
        have FN : Hid (∀ w2 w9, Ext Wb w2 → RowsV w9 (pr + 1) pr nh (addTo nh rows t) → AddF pr w2 w9 → RowN pr w2 w9 → w9.heap[D + 1]? = some (.loop (rc .busy none)) ∧ FacJ w w8 T0 K pr nh (fun b => C b ∨ (w2.heap.size ≤ b ∧ b < w9.heap.size)) (addTo nh rows t) w9 ∧ ButS C W w9 ∧ (∀ b, C b ∨ (w2.heap.size ≤ b ∧ b < w9.heap.size) → C b ∨ W.heap.size ≤ b) ∧ ∀ b, C b ∨ (w2.heap.size ≤ b ∧ b < w9.heap.size) → b < w9.heap.size) := fun w2 w9 e2 q1 q2 q3 => fac_next SK (by omega) F0.out HLL.out HCC.out (HWB.out ▸ e2) q1 q2 q3
        clear hj hb hC hs ho hm hl hl' FB F xb bp2 HD hm2 h1 h2 ht hWb her k7
        rcases h04 with h04 | h04
        · subst h04
          gi_wp2_with (first
            | (refine ⟨trivial, ?_⟩; gi_at_call 29; refine (CallsIn.inRound (D + 1) (callsIn_wide.2 HDH.out)).mono ?_; rintro e w2 ⟨a2, c2, rfl, s2, n2, e2⟩; have y7 := K7.out w2 e2)
            | (refine ⟨trivial, ?_⟩; gi_at_call 30; refine (CallsIn.inRound (D + 1) (callsIn_wide.2 (AD.out a2 c2 w2 e2 s2 n2))).mono ?_; rintro e w9 ⟨⟨rfl, v9, f9⟩, n9⟩))
          obtain ⟨u1, u2, u3, u4, u5⟩ := FN.out w2 w9 e2 v9 f9 n9
          obtain ⟨r1, r2, r3, r4, r5⟩ := fac_ready SK (by omega) u1 u2 u3 (F0.out.sub _ SK.tl) u4 u5 (rc .ready none)
          refine ⟨u1, _, .inl ⟨rfl, (JE.out _ _ _).2 ⟨⟨_, H1.out.add t, fun y => ?_, r1⟩, r2⟩⟩, r3, r4, r5⟩
          unfold addTo
          rw [if_pos HER.out, putRow_mem H1.out.up, H2.out]
          constructor
          · rintro (rfl | ⟨x', h, e⟩)
            · exact ⟨x, by simp, HT.out⟩
            · exact ⟨x', by simp [h], e⟩
          · rintro ⟨x', h, e⟩
            rcases List.mem_append.1 h with h | h
            · exact .inr ⟨x', h, e⟩
            · rw [List.mem_singleton.1 h, HT.out] at e
              exact .inl e.symm
        · subst h04
          have ne4 : ((4 : Int) != 0) = true := by decide
          gi_wp2_with (first
            | (refine ⟨trivial, ?_⟩; gi_at_call 29; refine (CallsIn.inRound (D + 1) (callsIn_wide.2 HDH.out)).mono ?_; rintro e w2 ⟨a2, c2, rfl, s2, n2, e2⟩; have y7 := K7.out w2 e2)
            | (refine ⟨trivial, ?_⟩; gi_at_call 30; refine (CallsIn.inRound (D + 1) (callsIn_wide.2 (AD.out a2 c2 w2 e2 s2 n2))).mono ?_; rintro e w9 ⟨⟨rfl, v9, f9⟩, n9⟩; obtain ⟨u1, u2, u3, u4, u5⟩ := FN.out w2 w9 e2 v9 f9 n9; obtain ⟨s4a, s4f, s5a, s5f, FX⟩ := fac_fail SK (p4 := p2 + 1) (p5 := p2 + 1 + 1) (D := D) ((KE.out _).2 (by simp)) ((KE.out _).2 (by simp)) ((KE.out _).2 (by simp)) (by omega) (by omega) (by omega) (by omega) (by omega) R4 R5 hD8 u1 u2 u3 F0.out.sub HCC.out))
          obtain ⟨g1, g2⟩ := FX _ rfl
          obtain ⟨x1, x2, x3⟩ := g2 (rc .done (some .ret))
          exact ⟨g1, C, .inr ⟨rfl, (JXE.out _ _).2 x1⟩, x2, fun b hb => .inl hb, x3⟩
      · rintro e W ⟨hv, C, h | h⟩
        · exact ⟨hv, _, C, .inl ⟨bind_iff BOK L64 m3 m2.jok m2.all, h⟩⟩
        · exact ⟨hv, [], C, .inr h⟩
  refine CallsIn.mono (callsIn_wide.2 IT.out) ?_
  rintro e W ⟨hv, done, C, ⟨hd, hj⟩ | hj⟩
  · obtain ⟨⟨rows, h1, h2, F⟩, hl⟩ := (JE.out done C W).1 hj
    refine ⟨hv, .ready, none, (fun h => by cases h), hl, .inl ⟨rfl, ?_⟩⟩
    obtain ⟨Wf, hWf⟩ : ∃ Wf, W.putObj (D + 1) (.loop (rc .exhausted none)) = Wf := ⟨_, rfl⟩
    rw [hWf]
    have FF : FacJ w w8 T0 K pr nh C rows Wf := by rw [← hWf]; exact F.turn SK _ hl rfl (by omega)
    have c7 := (cell_at ((FF.same (pr + 1) ((KE.out _).2 (by simp))).trans R7)).1
    obtain ⟨c4, f4⟩ := cell_at ((FF.same (p2 + 1) ((KE.out _).2 (by simp))).trans R4)
    obtain ⟨c5, f5⟩ := cell_at ((FF.same (p2 + 1 + 1) ((KE.out _).2 (by simp))).trans R5)
    have hDf := (FF.same D ((KE.out _).2 (by simp))).trans hD8
    have FFH := Lib.hid FF
    have HDF := Lib.hid hDf
    have C4 := Lib.hid c4
    have C5 := Lib.hid c5
    have HH := Lib.hid (And.intro hd (And.intro h1 h2))
    clear FF hDf hWf hl F hj hd h1 h2 hv R2 R4 R5 R7 hD8 hl8 x8 Q2 Q4 Q5 Q7 VN BOK L64 m7
    gi_wp2
    go_wp2
    obtain ⟨W9, hW9⟩ : ∃ W9, (Wf.setCell ⟨p2 + 1, 0, none⟩ (.pointer (some ⟨pr, 0, none⟩))).setCell ⟨p2 + 1 + 1, 0, none⟩ (.int .i64 0) = W9 := ⟨_, rfl⟩
    rw [hW9]
    have BS : ButS (fun b => b = p2 + 1 ∨ b = p2 + 1 + 1) Wf W9 := by rw [← hW9]; exact ((ButS.refl (fun b => b = p2 + 1 ∨ b = p2 + 1 + 1) Wf).set (.inl (.inl rfl)) _ _).set (.inl (.inr rfl)) _ _
    have k4 : W9.cell? ⟨p2 + 1, 0, none⟩ = some (.pointer (some ⟨pr, 0, none⟩)) := by
      rw [← hW9, World.cell?_setCell_other _ _ _ _ (by intro e; injection e with e; omega)]
      exact World.cell?_setCell_same _ _ _ C4.out
    have k5 : W9.cell? ⟨p2 + 1 + 1, 0, none⟩ = some (.int .i64 0) := by
      rw [← hW9]
      exact World.cell?_setCell_same _ _ _ ((World.cell?_setCell_other _ _ _ _ (by intro e; injection e with e; omega)).trans C5.out)
    have hK := (BS.block D (Array.getElem?_eq_some_iff.1 HDF.out).1 (by omega)).trans HDF.out
    have BD := ButS.putObj (S := fun b => b = D) W9 (.deferred none) rfl
    have BK : ButS K Wf (W9.putObj D (.deferred none)) := (BS.mono fun b _ q => (KE.out b).2 (by omega)).trans (BD.mono fun b _ q => (KE.out b).2 (by omega))
    obtain ⟨x1, x2⟩ := FFH.out.butK SK BK
    refine ⟨by simp, .inl ⟨_, _, rfl, run_takeDeferred hK, ?_⟩⟩
    refine ⟨_, res_facts _ (p2 + 1) (p2 + 1 + 1) _ _ _ rfl rfl (BD.cell (by omega) k4) (BD.cell (by omega) k5), x1, .inr ⟨pr, rows, rfl, ?_, ?_, fun y => (HH.out.2.2 y).trans ⟨fun ⟨x, hx, e⟩ => ⟨x, (HH.out.1 x).1 hx, e⟩, fun ⟨x, hx, e⟩ => ⟨x, (HH.out.1 x).2 hx, e⟩⟩⟩⟩
    · rw [HL.out]
      exact x2
    · rw [HL.out]
      exact HH.out.2.1
  · obtain FX := (JXE.out C W).1 hj
    refine ⟨hv, .done, some .ret, (fun h => by cases h), FX.rc, .inr ⟨_, rfl, ?_⟩⟩
    have BL := ButS.putObj (S := fun b => b = D + 1) W (.loop (rc .exhausted (some .ret))) rfl
    have hK := (BL.block D (Array.getElem?_eq_some_iff.1 FX.dfr).1 (by omega)).trans FX.dfr
    have k4 := BL.cell (b := p2 + 1) (by omega) FX.c4
    have k5 := BL.cell (b := p2 + 1 + 1) (by omega) FX.c5
    have xe := ext_of_but FX.ext BL (fun b hb q => by omega)
    generalize W.putObj (D + 1) (.loop (rc .exhausted (some .ret))) = W9 at BL hK k4 k5 xe ⊢
    have BD := ButS.putObj (S := fun b => b = D) W9 (.deferred none) rfl
    have HK := Lib.hid hK
    have X4 := Lib.hid (BD.cell (b := p2 + 1) (by omega) k4)
    have X5 := Lib.hid (BD.cell (b := p2 + 1 + 1) (by omega) k5)
    have XE := Lib.hid (ext_of_but xe BD (fun b hb q => by omega))
    clear FX BL hK k4 k5 xe BD hj R2 R4 R5 R7 hD8 hl8 x8 Q2 Q4 Q5 Q7 VN BOK L64 m7
    gi_wp2
    refine ⟨by simp, .inl ⟨_, _, rfl, run_takeDeferred HK.out, ?_⟩⟩
    exact ⟨_, res_facts _ (p2 + 1) (p2 + 1 + 1) _ _ _ rfl rfl X4.out X5.out, XE.out, .inl rfl⟩
end Go.Proofs.YtpgbenijjodoeaaGreat
