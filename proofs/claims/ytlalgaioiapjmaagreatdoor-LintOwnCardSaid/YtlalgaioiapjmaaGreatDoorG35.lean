/- lint.lonely: how often a variable stands, and where; the walk of its closure. The walk of lint.lonely. -/
import Derived.Test.YtlalgaioiapjmaaGreatDoorG27
import Derived.Test.YtlalgaioiapjmaaGreatDoorG30
namespace Go.Proofs.YtlalgaioiapjmaaGreatDoor
open Go.ChangeShapes Go.WideShapes Go.ChangeAt Go.RowKit
open K (AL Rule Term Atom TermsAt LitsAt RuleV)
def occ1 (at_ : Nat) (s : AL Nat × AL Nat) (t : Term) : AL Nat × AL Nat :=
  if t.kind = 1 then (K.putA s.1 t.text ((K.lookA s.1 t.text).getD 0 + 1), K.putA s.2 t.text at_) else s
def occT (at_ : Nat) (s : AL Nat × AL Nat) (ts : List Term) : AL Nat × AL Nat := ts.foldl (occ1 at_) s
def OcB (B : Nat) (s : AL Nat × AL Nat) : Prop := (∀ p ∈ s.1, p.2 ≤ B) ∧ s.1.length ≤ B
theorem OcB.look {B : Nat} {s : AL Nat × AL Nat} (h : OcB B s) (k : ByteArray) : (K.lookA s.1 k).getD 0 ≤ B := by
  rw [lookA_eq]
  cases hg : getL s.1 k with
  | none => exact Nat.zero_le _
  | some v =>
    obtain ⟨p, h1, h2⟩ := getL_mem hg
    rw [← h2]
    exact h.1 p h1
theorem OcB.one {B : Nat} {s : AL Nat × AL Nat} (h : OcB B s) (at_ : Nat) (t : Term) : OcB (B + 1) (occ1 at_ s t) := by
  unfold occ1
  split
  · refine ⟨fun p hp => ?_, ?_⟩
    · have hp : p ∈ K.putA s.1 t.text ((K.lookA s.1 t.text).getD 0 + 1) := hp
      rw [putA_eq] at hp
      rcases putL_vals hp with hp | hp
      · have := h.1 p hp
        omega
      · rw [hp]
        have := h.look t.text
        omega
    · show (K.putA s.1 t.text _).length ≤ _
      rw [putA_eq]
      have := putL_len s.1 t.text ((K.lookA s.1 t.text).getD 0 + 1)
      have := h.2
      omega
  · exact ⟨fun p hp => by have := h.1 p hp; omega, by have := h.2; omega⟩
theorem OcB.all {at_ : Nat} : ∀ {ts : List Term} {B : Nat} {s : AL Nat × AL Nat}, OcB B s → OcB (B + ts.length) (occT at_ s ts)
  | [], _, _, h => h
  | t :: ts, B, s, h => by
    have := OcB.all (at_ := at_) (ts := ts) (h.one at_ t)
    rw [List.length_cons, show B + (ts.length + 1) = B + 1 + ts.length by omega]
    exact this
/-- The two maps, from w on. -/
structure OcS (w : World) (mt mw : Nat) (s : AL Nat × AL Nat) (W : World) : Prop where
  tm : AMap W mt s.1
  wm : AMap W mw s.2
  but : ButS (fun x => x = mt ∨ x = mw) w W
theorem OcS.up {w W W' : World} {mt mw : Nat} {s : AL Nat × AL Nat} (h : OcS w mt mw s W) (e : Ext W W') : OcS w mt mw s W' := ⟨h.tm.ext e, h.wm.ext e, h.but.ext e⟩
theorem map_no_cell {w : World} {b : Nat} {a : AL Nat} (h : AMap w b a) {x o : Nat} {v : Value} (hc : w.cell? ⟨x, o, none⟩ = some v) : x ≠ b := by
  rintro rfl
  obtain ⟨es, cl, hm, _⟩ := h
  simp [World.cell?, hm] at hc
/-- One variable more. -/
theorem OcS.step {w W : World} {mt mw : Nat} {s : AL Nat × AL Nat} (h : OcS w mt mw s W) (hne : mt ≠ mw) (k : ByteArray) (hk : okS k) (v at_ : Nat) :
    ∃ o1 o2, (Instr.mapUpdate 79 (.map (some mt)) (.string k) (.int .i64 (v : Nat))).run Tryz.prog W = .ok () (K.setMap W mt o1) ∧
      (Instr.mapUpdate 79 (.map (some mw)) (.string k) (.int .i64 (at_ : Nat))).run Tryz.prog (K.setMap W mt o1) = .ok () (K.setMap (K.setMap W mt o1) mw o2) ∧
      ButS (fun x => x = mt) W (K.setMap W mt o1) ∧ OcS w mt mw (K.putA s.1 k v, K.putA s.2 k at_) (K.setMap (K.setMap W mt o1) mw o2) := by
  obtain ⟨o1, r1, m1⟩ := h.tm.set Tryz.underlying79 k hk v
  have b1 := setMap_but W mt o1
  have w1 : AMap (K.setMap W mt o1) mw s.2 := LMap.but h.wm b1 (fun e => hne e.symm)
  obtain ⟨o2, r2, m2⟩ := w1.set Tryz.underlying79 k hk at_
  have b2 := setMap_but (K.setMap W mt o1) mw o2
  exact ⟨o1, o2, r1, r2, b1, LMap.but m1 b2 hne, m2, (h.but.trans (b1.mono (fun _ _ e => .inl e))).trans (b2.mono (fun _ _ e => .inr e))⟩
set_option maxRecDepth 100000 in
set_option maxHeartbeats 4000000 in
theorem c_lonely1 (at_ : Nat) (ts : List Term) (s : AL Nat × AL Nat) (B : Nat) (a : Option Addr) (n c tb wb mt mw : Nat) (w : World) (ht : TermsAt w a n ts) (hb : OcB B s) (hB : B + n ≤ 1000000) (h1 : AMap w mt s.1) (h2 : AMap w mw s.2) (hne : mt ≠ mw) (t0 : w.cell? ⟨tb, 0, none⟩ = some (.map (some mt))) (u0 : w.cell? ⟨wb, 0, none⟩ = some (.map (some mw))) :
    Calls Tryz.prog 72 #[.int .i64 (at_ : Nat), .slice a n c, .pointer (some ⟨tb, 0, none⟩), .pointer (some ⟨wb, 0, none⟩)] w fun e w' => e = .returned (.tuple #[]) ∧ OcS w mt mw (occT at_ s ts) w' := by
  have HT := Lib.hid ht
  have HL := Lib.hid ht.2.1
  have HB := Lib.hid hb
  have H1 := Lib.hid h1
  have H2 := Lib.hid h2
  have S0 : Hid (OcS w mt mw s w) := ⟨h1, h2, ButS.refl _ _⟩
  have NT : ¬ (tb = mt ∨ tb = mw) := fun e => e.elim (map_no_cell h1 t0) (map_no_cell h2 t0)
  have NW : ¬ (wb = mt ∨ wb = mw) := fun e => e.elim (map_no_cell h1 u0) (map_no_cell h2 u0)
  clear ht hb h1 h2
  go_enter Tryz.func72, Tryz.ntmps72
  go_wp2
  go_loopw [10] (fun v wr => ∃ k : Nat, k ≤ n ∧ v = .int .i64 (k : Int) ∧ OcS w mt mw (occT at_ s (ts.take k)) wr) (fun v _ => n - (intOf v).toNat)
  case atStart => exact ⟨0, Nat.zero_le _, rfl, S0.out⟩
  case round =>
    obtain ⟨k, hk, rfl, st⟩ := hrel
    have ST := Lib.hid st
    by_cases hlt : ¬ k < n
    · have hki : ¬ (k : Int) < (n : Int) := by omega
      clear st
      go_wp2
      go_end0
      have := ST.out
      rw [List.take_of_length_le (by have := HL.out; omega)] at this
      exact ⟨rfl, this⟩
    · have hlt : k < n := by omega
      have hki : (k : Int) < (n : Int) := by omega
      obtain ⟨t, bt, off, hx, rfl, c0, c1, c2⟩ := HT.out.2.at hlt
      have NB : ¬ (bt = mt ∨ bt = mw) := fun e => e.elim (map_no_cell H1.out c0) (map_no_cell H2.out c0)
      have c0 := st.but.cell NB c0
      have c1 := st.but.cell NB c1
      have t0 := st.but.cell NT t0
      have u0 := st.but.cell NW u0
      have TK : Hid (occT at_ s (ts.take (k + 1)) = occ1 at_ (occT at_ s (ts.take k)) t) := by
        show _ = _
        rw [take_at hx]
        unfold occT
        rw [List.foldl_append]
        rfl
      have hlen : OcB (B + k) (occT at_ s (ts.take k)) := by
        have := HB.out.all (at_ := at_) (ts := ts.take k)
        rw [List.length_take, Nat.min_eq_left (by have := HL.out; omega)] at this
        exact this
      have HLT := Lib.hid hlt
      obtain ⟨S, hS⟩ : ∃ S, occT at_ s (ts.take k) = S := ⟨_, rfl⟩
      rw [hS] at TK hlen
      rw [hS] at ST
      obtain ⟨q, hq⟩ : ∃ q, (t.kind == 1) = q := ⟨_, rfl⟩
      have EA : ∀ o : Obj, Ext wr (wr.alloc o) := fun o => ext_alloc (Below.refl _ _) _
      clear st hx hS
      go_upto_region 3 with (fail)
      refine wp_gen (fun W hW => ?_)
      have E : Ext wr W := by rw [hW]; exact EA _
      have B7 : Blk W wr.heap.size 42 [.int .i64 t.kind, .string t.text] := by
        rw [hW]
        exact Blk.new wr [.int .i64 t.kind, .string t.text] 42
      have ST7 := ST.out.up E
      obtain ⟨xb, hxb⟩ : ∃ xb, wr.heap.size = xb := ⟨_, rfl⟩
      rw [hxb] at B7 ⊢
      have v0 := B7.cell (i := 0) rfl
      have v1 := B7.cell (i := 1) rfl
      have t0 := keep E t0
      have u0 := keep E u0
      cases q with
      | false =>
        have TK2 : Hid (OcS w mt mw (occT at_ s (ts.take (k + 1))) W) := by
          show OcS _ _ _ _ _
          rw [TK.out]
          unfold occ1
          rw [if_neg (by simpa using hq)]
          exact ST7
        clear hW E B7 hxb ST7 EA
        go_wp2
        go_roundw
        case rel => exact ⟨k + 1, HLT.out, by go_num, TK2.out⟩
        case measure => have := HLT.out; simp [intOf]; omega
      | true =>
        obtain ⟨v, hv⟩ : ∃ v, (K.lookA S.1 t.text).getD 0 = v := ⟨_, rfl⟩
        have hvb : v ≤ 1000000 := by
          have := hlen.look t.text
          rw [hv] at this
          omega
        have lk := ST7.tm.get Tryz.underlying79 t.text c2 false
        rw [hv] at lk
        have lk : (Instr.lookup 79 (.map (some mt)) (.string t.text) false).run Tryz.prog W = .ok (.int .i64 (v : Nat)) W := lk
        obtain ⟨o1, o2, r1, r2, b1, s2⟩ := ST7.step hne t.text c2 (v + 1) at_
        have r1 : (Instr.mapUpdate 79 (.map (some mt)) (.string t.text) (.int .i64 ((v : Int) + 1))).run Tryz.prog W = .ok () (K.setMap W mt o1) := r1
        have hwr : IntKind.i64.wrap ((v : Int) + 1) = (v : Int) + 1 := by
          rw [IntKind.wrap_i64]
          omega
        have NX : ¬ xb = mt := map_no_cell ST7.tm v0
        have v0m := b1.cell NX v0
        have v1m := b1.cell NX v1
        have u0m := b1.cell (fun e => NW (.inl e)) u0
        have TK2 : Hid (OcS w mt mw (occT at_ s (ts.take (k + 1))) (K.setMap (K.setMap W mt o1) mw o2)) := by
          show OcS _ _ _ _ _
          rw [TK.out]
          unfold occ1
          rw [if_pos (by simpa using hq), hv]
          exact s2
        clear hW E B7 hxb ST7 EA s2 b1 hv hlen
        go_wp2
        go_roundw
        case rel => exact ⟨k + 1, HLT.out, by go_num, TK2.out⟩
        case measure => have := HLT.out; simp [intOf]; omega
end Go.Proofs.YtlalgaioiapjmaaGreatDoor
namespace Go.Proofs.YtlalgaioiapjmaaGreatDoor
open Go.ChangeShapes Go.WideShapes Go.ChangeAt Go.RowKit
open K (AL Rule Term Atom TermsAt LitsAt RuleV Finding)
def occL (i : Nat) (s : AL Nat × AL Nat) (l : K.Lit) : AL Nat × AL Nat := if l.kind = 3 then occT i s [l.left, l.right] else occT i s l.atom.terms
def occB : Nat → AL Nat × AL Nat → List K.Lit → AL Nat × AL Nat
  | _, s, [] => s
  | i, s, l :: ls => occB (i + 1) (occL i s l) ls
theorem occB_snoc : ∀ (i : Nat) (s : AL Nat × AL Nat) (ls : List K.Lit) (l : K.Lit), occB i s (ls ++ [l]) = occL (i + ls.length) (occB i s ls) l
  | i, s, [], l => rfl
  | i, s, x :: ls, l => by
    show occB (i + 1) (occL i s x) (ls ++ [l]) = _
    rw [occB_snoc (i + 1) (occL i s x) ls l, List.length_cons, show i + 1 + ls.length = i + (ls.length + 1) by omega]
    rfl
theorem occB_take {s : AL Nat × AL Nat} {ls : List K.Lit} {k : Nat} {l : K.Lit} (h : ls[k]? = some l) : occB 0 s (ls.take (k + 1)) = occL k (occB 0 s (ls.take k)) l := by
  have hk := (List.getElem?_eq_some_iff.1 h).1
  rw [take_at h, occB_snoc, List.length_take, Nat.min_eq_left (by omega), Nat.zero_add]
theorem OcB.lit {B : Nat} {s : AL Nat × AL Nat} (h : OcB B s) (i : Nat) (l : K.Lit) (hl : l.atom.terms.length ≤ 64) : OcB (B + 66) (occL i s l) := by
  unfold occL
  split
  · have := h.all (at_ := i) (ts := [l.left, l.right])
    exact ⟨fun p hp => by have := this.1 p hp; simp only [List.length_cons, List.length_nil] at this; omega, by have := this.2; simp only [List.length_cons, List.length_nil] at this; omega⟩
  · have := h.all (at_ := i) (ts := l.atom.terms)
    exact ⟨fun p hp => by have := this.1 p hp; omega, by have := this.2; omega⟩
theorem OcB.lits : ∀ (ls : List K.Lit) (i B : Nat) (s : AL Nat × AL Nat), OcB B s → (∀ l ∈ ls, l.atom.terms.length ≤ 64) → OcB (B + 66 * ls.length) (occB i s ls)
  | [], _, _, _, h, _ => h
  | l :: ls, i, B, s, h, hl => by
    have := OcB.lits ls (i + 1) (B + 66) (occL i s l) (h.lit i l (hl l (List.mem_cons_self ..))) (fun x hx => hl x (List.mem_cons_of_mem _ hx))
    rw [List.length_cons, show B + 66 * (ls.length + 1) = B + 66 + 66 * ls.length by omega]
    exact this
def occR (r : Rule) : AL Nat × AL Nat := occB 0 (occT 0 ([], []) r.head.terms) r.body
/-- What is told of the variables met. -/
def lonT (Wh : AL Nat) (d : List (ByteArray × Value)) : List Tell := (d.filter fun p => decide (intOf p.2 = 1)).map fun p => ((K.lookA Wh p.1).getD 0, p.1)
def look4 (r : Rule) : List Tell := if r.head.terms.any aggT = true then [] else lonT (occR r).2 ((occR r).1.map fun p => (p.1, numV p.2))
theorem lonT_perm {Wh : AL Nat} {d d' : List (ByteArray × Value)} (h : d.Perm d') : (lonT Wh d).Perm (lonT Wh d') := (h.filter _).map _
theorem lonT_append (Wh : AL Nat) (d d' : List (ByteArray × Value)) : lonT Wh (d ++ d') = lonT Wh d ++ lonT Wh d' := by simp [lonT]
theorem FJ.but {ob base : Nat} {F : List Finding} {C S : Nat → Prop} {W W' : World} (h : FJ ob base F C W) (b : ButS S W W') (hs : ∀ x, C x → ¬ S x) : FJ ob base F C W' := by
  obtain ⟨a, c, h1, h2, h3, h4⟩ := h.ex
  exact ⟨⟨a, c, h1.but b (hs ob ((h3 ob).2 (.inl rfl))), b.own h2 (fun x hx => hs x ((h3 x).2 (.inr hx))), h3, h4⟩, h.lo⟩
theorem E0_size {w w' : World} (e : Ext w w') : w.heap.size ≤ w'.heap.size := e.size
/-- While a range goes on, its iterator in block it. -/
def FSx (ob base : Nat) (C : Nat → Prop) (W : World) (it : Nat) (F : List Finding) (wr : World) : Prop :=
  ∃ C', FJ ob base F C' wr ∧ (∀ x, C' x → C x ∨ W.heap.size ≤ x) ∧ ¬ C' it ∧ ButS C W wr
theorem FSx.fs {ob base it : Nat} {C : Nat → Prop} {W wr : World} {F : List Finding} (h : FSx ob base C W it F wr) : FS ob base C W F wr := by
  obtain ⟨C', h1, h2, _, h4⟩ := h
  exact ⟨C', h1, h2, h4⟩
set_option maxRecDepth 100000 in
set_option maxHeartbeats 4000000 in
theorem c_look4 {w0 W : World} {ob base lb nb : Nat} {kd : Int} {n : Nat} {F : List Finding} {C : Nat → Prop} (h : LookIn w0 ob base lb nb kd n F C W) (r : Rule) (ah : Option Addr) (nh ch : Nat) (ab : Option Addr) (bn cb : Nat) (hr : RuleV w0 r ah nh ch ab bn cb) (hh : nh ≤ 64) (hfew : bn ≤ 64) (hlt : ∀ l ∈ r.body, l.atom.terms.length ≤ 64) :
    Calls Tryz.prog 40 #[.int .i64 (n : Nat), .agg #[.string r.head.pred, .slice ah nh ch, .slice ab bn cb], .func (.func 18) #[] #[.pointer (some ⟨ob, 0, none⟩), .pointer (some ⟨lb, 0, none⟩), .pointer (some ⟨nb, 0, none⟩)]] W (LookPost ob base C W F ((look4 r).map (mkF kd n))) := by
  have H := Lib.hid h
  have HR := Lib.hid hr
  have HLn := Lib.hid hr.body.2.1
  have HTn := Lib.hid hr.terms.2.1
  have HLT := Lib.hid hlt
  obtain ⟨q, hq⟩ : ∃ q, r.head.terms.any aggT = q := ⟨_, rfl⟩
  have LK : Hid (look4 r = if q = true then [] else lonT (occR r).2 ((occR r).1.map fun p => (p.1, numV p.2))) := by
    show _ = _
    rw [← hq]
    rfl
  have AG : Hid (∀ W', Ext w0 W' → Calls Tryz.prog 35 #[.agg #[.string r.head.pred, .slice ah nh ch, .slice ab bn cb]] W' fun e w' => e = .returned (.bool q) ∧ Ext W' w') := fun W' e => by
    rw [← hq]
    exact c_aggregateL r.head.pred r.head.terms ah nh ch _ W' (hr.terms.keep e) ⟨_, _, _, rfl⟩
  have hmm := @run_makeMap Tryz.prog
  clear h hr hlt
  go_enter Tryz.func40, Tryz.ntmps40
  go_upto_region 1 with (fail)
  refine wp_gen (fun W1 hW => ?_)
  obtain ⟨E0, x0, x1, x2⟩ : Ext W W1 ∧ W1.cell? ⟨W.heap.size, 0, none⟩ = some (.string r.head.pred) ∧ W1.cell? ⟨W.heap.size, 1, none⟩ = some (.slice ah nh ch) ∧ W1.cell? ⟨W.heap.size, 2, none⟩ = some (.slice ab bn cb) := by rw [hW]; exact box_rule _ _ _ _
  have HE := Lib.hid E0
  obtain ⟨rb, hrb⟩ : ∃ rb, W.heap.size = rb := ⟨_, rfl⟩
  rw [hrb] at x0 x1 x2 ⊢
  clear hW E0 hrb hq
  go_upto_region 3 with (fail)
  refine wp_gen (fun W2 hW2 => ?_)
  have E2 : Ext W1 W2 := by rw [hW2]; exact ext_alloc (ext_alloc (ext_alloc (ext_alloc (Below.refl _ _) _) _) _) _
  have m1 : AMap W2 W1.heap.size [] := by
    rw [hW2]
    exact (LMap.made W1).ext (ext_alloc (ext_alloc (ext_alloc (Below.refl _ _) _) _) _)
  have m2 : AMap W2 (W1.heap.size + 1) [] := by
    rw [hW2]
    have := (LMap.made (kenc := Value.string) (ok := okS) (W1.alloc (.map #[] 0))).ext (ext_alloc (ext_alloc (Below.refl _ _) (.cells #[.map (some W1.heap.size)] 79)) (.cells #[.map (some (W1.heap.size + 1))] 79))
    rw [World.size_alloc] at this
    exact this
  have t0 : W2.cell? ⟨W1.heap.size + 1 + 1, 0, none⟩ = some (.map (some W1.heap.size)) := by rw [hW2]; go_simp
  have u0 : W2.cell? ⟨W1.heap.size + 1 + 1 + 1, 0, none⟩ = some (.map (some (W1.heap.size + 1))) := by rw [hW2]; go_simp
  have hsz := E0_size HE.out
  obtain ⟨mt, hmt⟩ : ∃ mt, W1.heap.size = mt := ⟨_, rfl⟩
  rw [hmt] at m1 m2 t0 u0 hsz ⊢
  obtain ⟨mw, hmw⟩ : ∃ mw, mt + 1 = mw := ⟨_, rfl⟩
  rw [hmw] at m2 t0 u0 ⊢
  obtain ⟨tb, htb⟩ : ∃ tb, mw + 1 = tb := ⟨_, rfl⟩
  rw [htb] at t0 u0 ⊢
  obtain ⟨wb, hwb⟩ : ∃ wb, tb + 1 = wb := ⟨_, rfl⟩
  rw [hwb] at u0 ⊢
  have hne : mt ≠ mw := by omega
  have x0 := keep E2 x0
  have x1 := keep E2 x1
  have x2 := keep E2 x2
  have rbl : rb ≠ mt ∧ rb ≠ mw := ⟨map_no_cell m1 x2, map_no_cell m2 x2⟩
  have HT0 := Lib.hid t0
  have HU0 := Lib.hid u0
  have HM1 := Lib.hid m1
  have HM2 := Lib.hid m2
  have HE2 := Lib.hid (ext_trans HE.out E2)
  have HNE := Lib.hid hne
  have HSEP : Hid (W.heap.size ≤ mt ∧ W.heap.size ≤ mw) := ⟨by omega, by omega⟩
  have HWB : Hid (W.heap.size ≤ wb) := by show _ ≤ _; omega
  have HRBL := Lib.hid rbl
  have AGW := Lib.hid (AG.out W2 (ext_trans H.out.ext HE2.out))
  clear hW2 m1 m2 hmt hmw htb hwb E2 hmm hne hsz AG rbl
  cases q with
  | true =>
    go_wp2_with (go_at_call 35; (with_reducible refine AGW.out.mono ?_); rintro e w3 ⟨rfl, E3⟩)
    refine bodyPost_ret (results_none rfl _ _ _) rfl ?_
    rw [LK.out]
    exact LookPost.mk (Below.refl _ _) (by simpa using (FS.start H.out.fj).up (ext_trans HE2.out E3))
  | false =>
    have OB1 : OcB 64 (occT 0 ([], []) r.head.terms) := by
      have := (OcB.all (at_ := 0) (ts := r.head.terms) (B := 0) (s := ([], [])) ⟨by simp, by simp⟩)
      have h := HTn.out
      exact ⟨fun p hp => by have := this.1 p hp; omega, by have := this.2; omega⟩
    have HOB1 := Lib.hid OB1
    have C1 : Hid (∀ w3, Ext W2 w3 → Calls Tryz.prog 72 #[.int .i64 0, .slice ah nh ch, .pointer (some ⟨tb, 0, none⟩), .pointer (some ⟨wb, 0, none⟩)] w3 fun e w' => e = .returned (.tuple #[]) ∧ OcS w3 mt mw (occT 0 ([], []) r.head.terms) w') := fun w3 e =>
      c_lonely1 0 r.head.terms ([], []) 0 ah nh ch tb wb mt mw w3 (HR.out.terms.keep (ext_trans H.out.ext (ext_trans HE2.out e))) ⟨by simp, by simp⟩ (by omega) (LMap.ext HM1.out e) (LMap.ext HM2.out e) HNE.out (keep e t0) (keep e u0)
    clear OB1
    go_upto_region 5 with (first | (go_at_call 35; (with_reducible refine AGW.out.mono ?_); rintro e w3 ⟨rfl, E3⟩; have x1 := keep E3 x1; have x2 := keep E3 x2; have t0 := keep E3 t0; have u0 := keep E3 u0) | (go_at_call 72; (with_reducible refine (C1.out _ E3).mono ?_); rintro e w4 ⟨rfl, S4⟩; have x2 := S4.but.cell (fun e => e.elim HRBL.out.1 HRBL.out.2) x2; have ST4 := Lib.hid S4; clear S4) | fail)
    obtain ⟨S1, hS1⟩ : ∃ S1, occT 0 ([], []) r.head.terms = S1 := ⟨_, rfl⟩
    have ST5 : Hid (OcS W2 mt mw S1 w4) := by
      show OcS _ _ _ _ _
      rw [← hS1]
      exact ⟨ST4.out.tm, ST4.out.wm, ((ButS.refl _ W2).ext E3).trans ST4.out.but⟩
    have OR : Hid (occR r = occB 0 S1 r.body) := by
      show _ = _
      unfold occR
      rw [hS1]
    have t0 := HT0.out
    have u0 := HU0.out
    rw [hS1] at HOB1
    have NT : ¬ (tb = mt ∨ tb = mw) := fun e => e.elim (map_no_cell HM1.out t0) (map_no_cell HM2.out t0)
    have NW : ¬ (wb = mt ∨ wb = mw) := fun e => e.elim (map_no_cell HM1.out u0) (map_no_cell HM2.out u0)
    clear ST4 E3 C1 AGW hS1 x1
    go_wp2
    go_loopw [26] (fun v wr => ∃ k : Nat, k ≤ bn ∧ v = .int .i64 (k : Int) ∧ OcS W2 mt mw (occB 0 S1 (r.body.take k)) wr) (fun v _ => bn - (intOf v).toNat)
    case atStart => exact ⟨0, Nat.zero_le _, rfl, ST5.out⟩
    case round =>
      obtain ⟨k, hk, rfl, st⟩ := hrel
      have ST := Lib.hid st
      have t0 := st.but.cell NT t0
      have u0 := st.but.cell NW u0
      have EW : Ext W wr := ext_of_but HE2.out st.but (fun b hb e => by have := HSEP.out; omega)
      have HEW := Lib.hid EW
      by_cases hlt : ¬ k < bn
      · have hki : ¬ (k : Int) < (bn : Int) := by omega
        have ST6 : Hid (OcS W2 mt mw (occR r) wr) := by
          show OcS _ _ _ _ _
          rw [OR.out]
          have := ST.out
          rw [List.take_of_length_le (by have := HLn.out; omega)] at this
          exact this
        have LW := Lib.hid (H.out.up EW)
        obtain ⟨Tm, hTm⟩ : ∃ Tm, (occR r).1 = Tm := ⟨_, rfl⟩
        obtain ⟨Wh, hWh⟩ : ∃ Wh, (occR r).2 = Wh := ⟨_, rfl⟩
        have hTl : Tm.length ≤ 100000 := by
          have := OcB.lits r.body 0 64 S1 HOB1.out HLT.out
          rw [← OR.out] at this
          have h2 := this.2
          rw [hTm] at h2
          have := HLn.out
          omega
        have LK2 : Hid (look4 r = lonT Wh (Tm.map fun p => (p.1, numV p.2))) := by
          show _ = _
          rw [LK.out, hTm, hWh]
          rfl
        have st6 := ST6.out
        have MT : AMap wr mt Tm := by rw [← hTm]; exact st6.tm
        have MW : AMap wr mw Wh := by rw [← hWh]; exact st6.wm
        obtain ⟨o, hrg, it0⟩ := LMap.range (P := Tryz.prog) (show LMap Value.string okS wr mt (Tm.map fun p => (p.1, numV p.2)) from MT) (t := 79) Tryz.underlying79
        have FX0 : FSx ob base C wr wr.heap.size (F ++ (lonT Wh []).map (mkF kd n)) (wr.alloc o) := by
          refine ⟨C, ?_, fun x hx => .inl hx, fun hc => ?_, (ButS.refl C wr).alloc o⟩
          · simpa [lonT] using LW.out.fj.up (ext_alloc (Below.refl _ wr) o)
          · have := (LW.out.fj.low hc).2
            omega
        have NCT : ¬ C mt := H.out.notC HSEP.out.1
        have NCW : ¬ C mw := H.out.notC HSEP.out.2
        have NCB : ¬ C wb := H.out.notC (by have := HWB.out; omega)
        have hlw : mt < wr.heap.size := LMap.lt MT
        obtain ⟨L, hL⟩ : ∃ L : List (ByteArray × Value), (Tm.map fun p => (p.1, numV p.2)) = L := ⟨_, rfl⟩
        rw [hL] at it0 LK2
        have LF : Hid (∀ p ∈ L, ∃ q ∈ Tm, p = (q.1, numV q.2)) := fun p hp => by
          rw [← hL] at hp
          obtain ⟨q, hq, rfl⟩ := List.mem_map.1 hp
          exact ⟨q, hq, rfl⟩
        have LL : Hid (L.length ≤ 100000) := by
          show _ ≤ _
          rw [← hL, List.length_map]
          exact hTl
        obtain ⟨WR, rfl⟩ : ∃ WR, WR = wr := ⟨_, rfl⟩
        have HMW := Lib.hid MW
        have HIT0 := Lib.hid it0
        have HFX0 := Lib.hid FX0
        have HUW := Lib.hid u0
        clear st EW MT MW it0 FX0 st6 hTm hWh hTl hL ST6 ST
        go_wp2
        obtain ⟨itb, hitb⟩ : ∃ itb, WR.heap.size = itb := ⟨_, rfl⟩
        rw [hitb] at HIT0 HFX0
        rw [hitb]
        have HITB := Lib.hid hitb
        clear hrg hitb
        go_loopg [11] L.length (fun g _ wr => ∃ done left, left.length = g ∧ ItSt Value.string okS wr itb mt L done left ∧ FSx ob base C WR itb (F ++ (lonT Wh done).map (mkF kd n)) wr)
        case atStart => exact ⟨[], L, rfl, HIT0.out, HFX0.out⟩
        case round =>
          obtain ⟨done, left, hg, it, fx⟩ := hrel
          have HFX := Lib.hid fx
          have PERM : Hid ((done ++ left).Perm L) := by
            obtain ⟨es, clock, since, seen, c0, _, _, _, _, _, _, _, _, h9, _⟩ := it
            exact h9
          rcases it.next 0 (P := Tryz.prog) with ⟨hl, hnx⟩ | ⟨p, left', W7, hpl, hnx, it', bt, hen⟩
          · clear it fx
            subst hl
            have FIN : Hid (LookPost ob base C W F ((look4 r).map (mkF kd n)) (.returned (.tuple #[])) wr) := by
              refine ⟨rfl, (lonT Wh done).map (mkF kd n), ?_, ?_⟩
              · rw [LK2.out]
                have := PERM.out
                rw [List.append_nil] at this
                exact (lonT_perm this).map _
              · have e := HEW.out
                exact HFX.out.fs.comp (fun _ hx => .inl hx) ⟨e.os, e.tape, e.output, e.size, fun b hb _ => e.block b hb⟩
            go_wp2
            go_end0
            exact FIN.out
          · have hpL : p ∈ L := PERM.out.mem_iff.1 (List.mem_append_right _ (hpl.mem_iff.2 (List.mem_cons_self ..)))
            obtain ⟨pq, hpq, hpe⟩ := LF.out p hpL
            obtain ⟨k, c⟩ := pq
            have hk : okS k := by
              obtain ⟨_, _, _, _, _, h4, _⟩ := it.lmap
              have := h4 p hpL
              rw [hpe] at this
              exact this
            subst hpe
            have en7 : (Instr.entry (.pointer (some ⟨itb, 0, none⟩))).run Tryz.prog W7 = .ok (.tuple #[.string k, .int .i64 (c : Int)]) W7 := hen W7 rfl rfl
            have nx7 : (Instr.next (.pointer (some ⟨itb, 0, none⟩)) false 0).run Tryz.prog wr = .ok (.tuple #[.bool true, .string k, .int .i64 (c : Int)]) W7 := hnx
            obtain ⟨C', f1, f2, f3, f4⟩ := fx
            have hdl : done.length ≤ 100000 := by
              have h1 := PERM.out.length_eq
              have h2 := LL.out
              rw [List.length_append] at h1
              omega
            have hll : left'.length = gk - 1 := by
              have := hpl.length_eq
              rw [List.length_cons] at this
              omega
            have hgp : 0 < gk := by
              have := hpl.length_eq
              rw [List.length_cons] at this
              omega
            have f7 : FJ ob base (F ++ (lonT Wh done).map (mkF kd n)) C' W7 := f1.but bt (fun x hx e => f3 (by rw [← show x = itb from e]; exact hx))
            have fx7 : FSx ob base C WR itb (F ++ (lonT Wh done).map (mkF kd n)) W7 := by
              refine ⟨C', f7, f2, f3, ?_⟩
              have b1 : ButS (fun x => C x ∨ x = itb) WR W7 := (f4.mono (fun _ _ h => .inl h)).trans (bt.mono (fun _ _ h => .inr h))
              exact b1.mono (fun x hx h => h.elim id (fun e => by have := HITB.out; omega))
            have it7 : ItSt Value.string okS W7 itb mt L (done ++ [(k, numV c)]) left' := it'
            obtain ⟨z, hz⟩ : ∃ z, (c == 1) = z := ⟨_, rfl⟩
            have hzi : ((c : Int) == 1) = z := by
              rw [← hz]
              by_cases h : c = 1
              · subst h; rfl
              · rw [beq_eq_false_iff_ne.2 h, beq_eq_false_iff_ne]
                omega
            have LT1 : Hid (lonT Wh [(k, numV c)] = if z = true then [((K.lookA Wh k).getD 0, k)] else []) := by
              show _ = _
              rw [← hz]
              unfold lonT
              by_cases h : c = 1
              · subst h; rfl
              · have h2 : ¬ (intOf (numV c) = 1) := by simp [intOf]; omega
                rw [if_neg (by simpa using h)]
                simp [h2]
            have FLN : (F ++ (lonT Wh done).map (mkF kd n)).length ≤ 1000000000 := by
              have h1 := LW.out.few
              have h2 : (lonT Wh done).length ≤ done.length := by
                unfold lonT
                rw [List.length_map]
                exact List.length_filter_le _ _
              rw [List.length_append, List.length_map]
              omega
            have hwl : WR.heap.size ≤ W7.heap.size := fx7.fs.size
            have hitl : itb < W7.heap.size := by
              obtain ⟨_, _, _, _, _, _, _, _, _, _, h6, _⟩ := it7
              exact (Array.getElem?_eq_some_iff.1 h6).1
            have NXT : Hid (∀ i w8, FS ob base C' W7 ((F ++ (lonT Wh done).map (mkF kd n)) ++ [⟨kd, n, i, k⟩]) w8 → FSx ob base C WR itb ((F ++ (lonT Wh done).map (mkF kd n)) ++ [⟨kd, n, i, k⟩]) w8 ∧ ItSt Value.string okS w8 itb mt L (done ++ [(k, numV c)]) left') := fun i w8 h8 => by
              obtain ⟨C8, g1, g2, g3⟩ := h8
              have hm : ¬ C' mt := fun e => (f2 mt e).elim NCT (fun h => by omega)
              refine ⟨⟨C8, g1, fun x hx => ?_, fun e => ?_, ?_⟩, it7.block (g3.block mt (by omega) hm) (g3.block itb hitl f3)⟩
              · rcases g2 x hx with h | h
                · exact f2 x h
                · exact .inr (by omega)
              · rcases g2 itb e with h | h
                · exact f3 h
                · omega
              · obtain ⟨_, _, _, _, b7⟩ := fx7
                refine ⟨g3.os.trans b7.os, g3.tape.trans b7.tape, g3.output.trans b7.output, Nat.le_trans b7.size g3.size, fun b hb hn => ?_⟩
                exact (g3.block b (Nat.lt_of_lt_of_le hb b7.size) (fun e => (f2 b e).elim hn (fun h => by omega))).trans (b7.block b hb hn)
            have u7 := fx7.fs.cell NCB HUW.out
            have M7 : AMap W7 mw Wh := LMap.block HMW.out (fx7.fs.block (LMap.lt HMW.out) NCW)
            have lk := M7.get Tryz.underlying79 k hk false
            obtain ⟨i, hi⟩ : ∃ i, (K.lookA Wh k).getD 0 = i := ⟨_, rfl⟩
            rw [hi] at lk LT1
            have lk : (Instr.lookup 79 (.map (some mw)) (.string k) false).run Tryz.prog W7 = .ok (.int .i64 (i : Nat)) W7 := lk
            have CT := Lib.hid (c_tell i k kd n lb nb ob base C' _ W7 W7 (FS.start f7) (fx7.fs.cell LW.out.nl LW.out.kind) (fx7.fs.cell LW.out.nn LW.out.rule) FLN)
            have HFX7 := Lib.hid fx7
            have HIT7 := Lib.hid it7
            have HGL := Lib.hid hll
            have HGP := Lib.hid hgp
            clear it it' bt hen hnx fx7 it7 f1 f2 f3 f4 f7 M7 hpl hpL hpq FLN hwl hitl hll hgp hdl hz hi HFX
            cases z with
            | false =>
              go_wp2
              go_roundg (gk - 1)
              case measure => have := HGP.out; omega
              case rel =>
                refine ⟨done ++ [(k, numV c)], left', HGL.out, HIT7.out, ?_⟩
                rw [lonT_append, LT1.out]
                simpa using HFX7.out
            | true =>
              go_wp2_with (go_at_call 18; (with_reducible refine CT.out.mono ?_); rintro e w8 ⟨rfl, S8⟩; have HS8 := Lib.hid (NXT.out i w8 S8); clear S8)
              go_roundg (gk - 1)
              case measure => have := HGP.out; omega
              case rel =>
                refine ⟨done ++ [(k, numV c)], left', HGL.out, HS8.out.2, ?_⟩
                rw [lonT_append, LT1.out]
                simpa [mkF] using HS8.out.1
      · have hlt : k < bn := by omega
        have hki : (k : Int) < (bn : Int) := by omega
        have E0r : Ext w0 wr := ext_trans H.out.ext EW
        obtain ⟨l, b, off, ta, tn, tc, hlk, rfl, z0, z1, z2, z3, z4, z5, z6, z7, ht, _⟩ := lit_cells (HR.out.body.keep E0r) hlt
        have HLTX : l.left.text.size ≤ maxLen ∧ l.right.text.size ≤ maxLen := by
          obtain ⟨_, _, _, _, _, _, _, _, _, _, _, _, _, _, hp1, hp2, hp3⟩ := HR.out.body.2.2 k l hlk
          exact ⟨hp3.2.1, hp3.2.2⟩
        have TK : Hid (occB 0 S1 (r.body.take (k + 1)) = occL k (occB 0 S1 (r.body.take k)) l) := occB_take hlk
        have OB : OcB (64 + 66 * k) (occB 0 S1 (r.body.take k)) := by
          have := OcB.lits (r.body.take k) 0 64 S1 HOB1.out (fun x hx => HLT.out x (List.mem_of_mem_take hx))
          rw [List.length_take, Nat.min_eq_left (by have := HLn.out; omega)] at this
          exact this
        have hll := HLT.out l (List.mem_of_getElem? hlk)
        obtain ⟨S, hS⟩ : ∃ S, occB 0 S1 (r.body.take k) = S := ⟨_, rfl⟩
        rw [hS] at TK OB st
        obtain rfl : l.atom.terms.length = tn := ht.2.1
        obtain ⟨q3, hq3⟩ : ∃ q, (l.kind == 3) = q := ⟨_, rfl⟩
        have CT : Hid (∀ W' ts a' n' c', Ext wr W' → TermsAt W' a' n' ts → n' ≤ 64 → Calls Tryz.prog 72 #[.int .i64 (k : Nat), .slice a' n' c', .pointer (some ⟨tb, 0, none⟩), .pointer (some ⟨wb, 0, none⟩)] W' fun e w' => e = .returned (.tuple #[]) ∧ OcS W2 mt mw (occT k S ts) w') := fun W' ts a' n' c' e ht' hn' =>
          (c_lonely1 k ts S (64 + 66 * k) a' n' c' tb wb mt mw W' ht' OB (by omega) (LMap.ext st.tm e) (LMap.ext st.wm e) HNE.out (keep e t0) (keep e u0)).mono fun _ _ h => ⟨h.1, h.2.tm, h.2.wm, (st.but.ext e).trans h.2.but⟩
        have HT := Lib.hid ht
        have HLTH := Lib.hid hlt
        have HLX := Lib.hid HLTX
        clear st hlk ht OB hS EW E0r HLTX t0 u0
        go_upto_region 8 with (fail)
        refine wp_gen (fun W8 hW8 => ?_)
        have E8 : Ext wr W8 := by rw [hW8]; exact ext_alloc (Below.refl _ _) _
        have B8 : Blk W8 wr.heap.size 47 [.int .i64 l.kind, .string l.atom.pred, .slice ta l.atom.terms.length tc, .int .i64 l.op, .int .i64 l.left.kind, .string l.left.text, .int .i64 l.right.kind, .string l.right.text] := by
          rw [hW8]
          exact Blk.new wr [.int .i64 l.kind, .string l.atom.pred, .slice ta l.atom.terms.length tc, .int .i64 l.op, .int .i64 l.left.kind, .string l.left.text, .int .i64 l.right.kind, .string l.right.text] 47
        have v0 := B8.cell (i := 0) rfl
        have v2 := B8.cell (i := 2) rfl
        have v4 := B8.cell (i := 4) rfl
        have v5 := B8.cell (i := 5) rfl
        have v6 := B8.cell (i := 6) rfl
        have v7 := B8.cell (i := 7) rfl
        have HE8 := Lib.hid E8
        have T2 : Hid (∀ o : Obj, True) := fun _ => trivial
        have TWO : Hid (TermsAt (W8.alloc (.cells #[.int .i64 l.left.kind, .string l.left.text, .int .i64 l.right.kind, .string l.right.text] 42)) (some ⟨W8.heap.size, 0, none⟩) 2 [l.left, l.right]) := by
          have B := Blk.new W8 [.int .i64 l.left.kind, .string l.left.text, .int .i64 l.right.kind, .string l.right.text] 42
          refine ⟨by omega, rfl, fun i t ht => ⟨W8.heap.size, 0, rfl, ?_⟩⟩
          match i, ht with
          | 0, ht =>
            cases ht
            exact ⟨B.cell (i := 0) rfl, B.cell (i := 1) rfl, HLX.out.1⟩
          | 1, ht =>
            cases ht
            exact ⟨B.cell (i := 2) rfl, B.cell (i := 3) rfl, HLX.out.2⟩
        clear hW8 E8 B8 z0 z1 z2 z3 z4 z5 z6 z7 T2
        cases q3 with
        | false =>
          have FIN : Hid (∀ w9, OcS W2 mt mw (occT k S l.atom.terms) w9 → OcS W2 mt mw (occB 0 S1 (r.body.take (k + 1))) w9) := fun w9 h => by
            rw [TK.out]
            unfold occL
            rw [if_neg (by simpa using hq3)]
            exact h
          go_wp2_with (go_at_call 72; (with_reducible refine (CT.out _ l.atom.terms _ _ _ HE8.out (HT.out.keep HE8.out) hll).mono ?_); rintro e w9 ⟨rfl, S9⟩; have HS9 := Lib.hid (FIN.out _ S9); clear S9)
          go_roundw
          case rel => exact ⟨k + 1, HLTH.out, by go_num, HS9.out⟩
          case measure => have := HLTH.out; simp [intOf]; omega
        | true =>
          have FIN : Hid (∀ w9, OcS W2 mt mw (occT k S [l.left, l.right]) w9 → OcS W2 mt mw (occB 0 S1 (r.body.take (k + 1))) w9) := fun w9 h => by
            rw [TK.out]
            unfold occL
            rw [if_pos (by simpa using hq3)]
            exact h
          go_wp2_with (go_at_call 72; (with_reducible refine (CT.out _ [l.left, l.right] _ 2 2 (ext_trans HE8.out (ext_alloc (Below.refl _ _) _)) TWO.out (by decide)).mono ?_); rintro e w9 ⟨rfl, S9⟩; have HS9 := Lib.hid (FIN.out _ S9); clear S9)
          go_roundw
          case rel => exact ⟨k + 1, HLTH.out, by go_num, HS9.out⟩
          case measure => have := HLTH.out; simp [intOf]; omega
end Go.Proofs.YtlalgaioiapjmaaGreatDoor
