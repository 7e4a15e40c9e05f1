/- The walk of the document's search. -/
import Derived.Test.YtcphjfggjjonpaaLayW
import Derived.Test.YtcphjfggjjonpaaSrchR
import Derived.Test.YtcphjfggjjonpaaKnown
import Derived.Deep.AppendLies
namespace Go.Proofs.Ytcphjfggjjonpaa
open Go.ChangeShapes Go.WideShapes Go.ChangeAt Go.RowKit
/-- A slice of numbers: its cells. -/
def NumsAt (w : World) (a : Option Addr) (n cap : Nat) (l : List Nat) : Prop := l.length = n ∧ capOk a n cap ∧ ∀ ad, a = some ad → ∀ j u, (intsV l)[j]? = some u → w.cell? (ad.add j) = some u
theorem NumsAt.keep {W w : World} (hb : Ext W w) {a : Option Addr} {n cap : Nat} {l : List Nat} (h : NumsAt W a n cap l) : NumsAt w a n cap l := ⟨h.1, h.2.1, fun ad e j u hu => Ytcphjfggjjonpaa.keep hb (h.2.2 ad e j u hu)⟩
theorem intsV_len (l : List Nat) : (intsV l).length = l.length := by simp [intsV]
theorem intsV_one (l : List Nat) : ∀ u ∈ intsV l, u.oneCell' = true := by
  intro u hu
  simp [intsV] at hu
  obtain ⟨x, _, rfl⟩ := hu
  rfl
theorem own_nums {w : World} {base : Nat} {v : Value} {n : Nat} {l : List Nat} (h : w.ownsRow base 3 1 v n (intsV l)) : ∃ a cap, v = .slice a n cap ∧ NumsAt w a n cap l := by
  have hl : l.length = n := by have := h.1; rw [intsV_len] at this; omega
  rcases h.2 with ⟨rfl, rfl⟩ | ⟨g, cap, cur, rfl, _, hg, hc, _⟩
  · exact ⟨none, 0, rfl, hl, ⟨Nat.le_refl _, fun _ => ⟨rfl, rfl⟩⟩, fun ad e => by cases e⟩
  · refine ⟨_, cap, rfl, hl, ⟨hc, by intro e; cases e⟩, fun ad e j u hu => ?_⟩
    cases e
    exact h.cells (g := g) rfl j u hu
/-- What the document's search answers. -/
def SearchPost (res : RRes) (w : World) (e : Ending) (w' : World) : Prop :=
  Ext w w' ∧ match res with
  | .many => e = .returned (.tuple #[.slice none 0 0, .int .i64 (-1)])
  | .none lk => e = .returned (.tuple #[.slice none 0 0, .int .i64 (lk : Nat)])
  | .found L => ∃ (g cap lk : Nat), e = .returned (.tuple #[.slice (some ⟨g, 0, none⟩) L.length cap, .int .i64 (lk : Nat)]) ∧ w'.ownsRow w.heap.size 3 1 (.slice (some ⟨g, 0, none⟩) L.length cap) L.length (intsV L)
theorem news_one (w : World) (u : Value) (t : TypeId) : ∀ j x, [u][j]? = some x → (w.alloc (.cells #[u] t)).drew.cell? ((⟨w.heap.size, 0, none⟩ : Addr).add j) = some x := by
  intro j x h
  have hj : j = 0 := by
    have := (List.getElem?_eq_some_iff.1 h).1
    simp at this
    exact this
  subst hj
  rw [Addr.add_lit, World.cell?_drew, World.cell?_alloc_new]
  simpa using h
/-- At a step of a drawn region: one more number. -/
theorem step_push_int {ops : Array Oper} {o : Oper} {a : Act} {K : Act → World → Prop} {Q : Exit → Act → World → Prop} {E : Prop} (W0 Wb : World) (v : Value) (n : Nat) (l : List Nat) (k : Nat) (hown : W0.ownsRow Wb.heap.size 3 1 v n (intsV l)) (hbig : n + 1 ≤ 1000000) (hext : Ext Wb W0)
    (hgd : o.guard = none) (s x : Operand) (ho : o.op = .call { callee := .builtin .append, args := #[s, x], argTypes := #[29, 29] }) (hs : a.eval s = v) (hx : a.eval x = .slice (some ⟨W0.heap.size, 0, none⟩) 1 1)
    (h : ∀ g cap w', w'.ownsRow Wb.heap.size 3 1 (.slice (some ⟨g, 0, none⟩) (n + 1) cap) (n + 1) (intsV (l ++ [k])) → Ext Wb w' → K (a.put o.dst (.slice (some ⟨g, 0, none⟩) (n + 1) cap)) w') :
    if Region.wanted o (yielded ops a.tmps) = true then Oper.wp Try.prog o a ((W0.alloc (.cells #[.int .i64 (k : Nat)] 3)).drew) K Q else E := by
  obtain ⟨i0, hi, hz0, hz1, hz2⟩ := info_parts info_int
  have hbase := hext.size
  refine step_append_lies _ hgd s x 29 ho Wb.heap.size 3 i0 (.int .i64 0) 1 8 Try.underlying29 hi hz0 hz1 hz2 rfl (by omega) v n (intsV l) hs (hown.alloc _).drew ⟨W0.heap.size, 0, none⟩ 1 1 [.int .i64 (k : Nat)] hx rfl (news_one W0 _ _) (by intro u hu; simp at hu; subst hu; rfl) (by omega) (by unfold maxLen; omega) (by omega) (by simp; omega) (W0.heap.size + 1) (by simp) (fun g cap w1 hown1 hgrow hat hlt1 => h g cap w1 ?_ ?_)
  · have e : intsV (l ++ [k]) = intsV l ++ [.int .i64 (k : Nat)] := by simp [intsV]
    rw [e]
    exact hown1
  · exact ext_ownB (ext_drew (ext_alloc hext _)) hgrow (fun g e => (hown.lt g e).1)
/-- What it answers, in one shape. -/
def SearchOut (res : RRes) (B : Nat) (a : Option Addr) (n c : Nat) (x : Int) (w' : World) : Prop :=
  match res with
  | .many => a = none ∧ n = 0 ∧ c = 0 ∧ x = -1
  | .none lk => a = none ∧ n = 0 ∧ c = 0 ∧ x = (lk : Nat)
  | .found L => ∃ g lk : Nat, a = some ⟨g, 0, none⟩ ∧ n = L.length ∧ x = (lk : Nat) ∧ w'.ownsRow B 3 1 (.slice (some ⟨g, 0, none⟩) L.length c) L.length (intsV L)
theorem search_one {res : RRes} {w : World} {e : Ending} {w' : World} (h : SearchPost res w e w') : ∃ a n c x, e = .returned (.tuple #[.slice a n c, .int .i64 x]) ∧ Ext w w' ∧ SearchOut res w.heap.size a n c x w' := by
  obtain ⟨h1, h2⟩ := h
  cases res with
  | many => exact ⟨none, 0, 0, -1, h2, h1, rfl, rfl, rfl, rfl⟩
  | none lk => exact ⟨Option.none, 0, 0, (lk : Nat), h2, h1, rfl, rfl, rfl, rfl⟩
  | found L =>
    obtain ⟨g, cap, lk, h3, h4⟩ := h2
    exact ⟨some ⟨g, 0, none⟩, L.length, cap, (lk : Nat), h3, h1, g, lk, rfl, rfl, rfl, h4⟩
theorem search_base {res : RRes} {B B' : Nat} {a : Option Addr} {n c : Nat} {x : Int} {w' : World} (h : SearchOut res B a n c x w') (hb : B' ≤ B) : SearchOut res B' a n c x w' := by
  cases res with
  | many => exact h
  | none lk => exact h
  | found L =>
    obtain ⟨g, lk, h1, h2, h3, h4⟩ := h
    exact ⟨g, lk, h1, h2, h3, own_base h4 hb⟩
theorem nums_of {w : World} {base : Nat} {g n cap : Nat} {l : List Nat} (h : w.ownsRow base 3 1 (.slice (some ⟨g, 0, none⟩) n cap) n (intsV l)) : NumsAt w (some ⟨g, 0, none⟩) n cap l := by
  obtain ⟨a', c', e, hn⟩ := own_nums h
  cases e
  exact hn
theorem scanR_le (go : TMap → List Nat → Nat → RRes) (hgo : ∀ m at_ lk lk2, lk ≤ 65536 → go m at_ lk = .none lk2 → lk2 ≤ 65536) (m : TMap) (a : Atom) (at_ : List Nat) (ls : List Lit) : ∀ (k lk lk2 : Nat), lk ≤ 65536 → scanR go m a at_ ls k lk = .none lk2 → lk2 ≤ 65536 := by
  induction ls with
  | nil =>
    intro k lk lk2 h hs
    rw [scanR] at hs
    cases hs
    exact h
  | cons l rest ih =>
    intro k lk lk2 h hs
    rw [scanR] at hs
    by_cases hm : 65536 < lk + 1
    · rw [if_pos hm] at hs
      cases hs
    · rw [if_neg hm] at hs
      cases hl : lay m a l.atom k with
      | none =>
        rw [hl] at hs
        exact ih (k + 1) (lk + 1) lk2 (by omega) hs
      | some q =>
        obtain ⟨m', fr⟩ := q
        rw [hl] at hs
        simp only at hs
        cases hg : go m' (at_ ++ [k]) (lk + 1) with
        | many => rw [hg] at hs; cases hs
        | found L => rw [hg] at hs; cases hs
        | none lk3 =>
          rw [hg] at hs
          exact ih (k + 1) lk3 lk2 (hgo _ _ _ _ (by omega) hg) hs
theorem srchR_le (rb rest : List Lit) : ∀ (m : TMap) (at_ : List Nat) (lk lk2 : Nat), lk ≤ 65536 → srchR rb rest m at_ lk = .none lk2 → lk2 ≤ 65536 := by
  induction rest with
  | nil =>
    intro m at_ lk lk2 _ hs
    rw [srchR] at hs
    cases hs
  | cons a rest ih =>
    intro m at_ lk lk2 h hs
    rw [srchR] at hs
    exact scanR_le _ ih _ _ _ _ _ _ _ h hs
theorem nil_neI (w : World) : (binOp .neq 29 (.slice none 0 0) (.slice none 0 0)).run Try.prog w = .ok (.bool false) w := by kernel_rfl
theorem some_neI (ad : Addr) (n cap : Nat) (w : World) : (binOp .neq 29 (.slice (some ad) n cap) (.slice none 0 0)).run Try.prog w = .ok (.bool true) w := by kernel_rfl
section
variable {P : Program} {w : World}
/-- Append of any slice onto one of one's own that is not nil: it is not nil behind it. -/
theorem wpList_append_keep {ops : Array Oper} {rest : List Oper} {o : Oper} {a : Act} {Q : Exit → Act → World → Prop} (hgd : o.guard = none) (s x : Operand) (t : TypeId)
    (ho : o.op = .call { callee := .builtin .append, args := #[s, x], argTypes := #[t, t] })
    (base : Nat) (e : TypeId) (i : TypeInfo) (z : Value) (size bytes : Nat) (ht : P.underlying t = some (.slice e)) (hi : P.info? e = some i) (hz : i.zero = some z)
    (hsize : i.size = size) (hby : i.bytes = bytes) (hzs : z.cells.size = size) (hsz : 0 < size)
    (v : Value) (n : Nat) (xs : List Value) (hs : a.eval s = v) (hown : w.ownsRow base e size v n xs)
    (aa : Option Addr) (m c : Nat) (news : List Value) (hx : a.eval x = .slice aa m c) (hnil : aa = none → m = 0 ∧ c = 0) (hl : news.length = m * size)
    (hnews : ∀ ad, aa = some ad → ∀ j u, news[j]? = some u → w.cell? (ad.add j) = some u) (h1 : ∀ u ∈ news, u.oneCell' = true)
    (h63 : n + m ≤ maxLen) (hbytes : (n + m) * bytes ≤ 140737488355328) (hbase : base ≤ w.heap.size)
    (h : ∀ v' w', w'.ownsRow base e size v' (n + m) (xs ++ news) → w.grownBy w' v.ownBlock → (v ≠ .slice none 0 0 → v' ≠ .slice none 0 0) → wpList P ops Q rest (a.put o.dst v') w') : wpList P ops Q (o :: rest) a w := by
  cases aa with
  | none =>
    obtain ⟨rfl, rfl⟩ := hnil rfl
    obtain rfl : news = [] := List.eq_nil_of_length_eq_zero (by simpa using hl)
    refine wpList_append_own_none hgd s x t ho base e i size ht hi v n xs hs hown hx (h v w (by simpa using hown) ⟨rfl, rfl, rfl, Nat.le_refl _, fun _ _ _ => rfl⟩ (fun h => h))
  | some ad =>
    exact wpList_append_own w hgd s x t ho base e i z size bytes ht hi hz hsize hby hzs hsz v n xs hs hown ad m c news hx hl (hnews ad rfl) h1 h63 hbytes hbase fun v' w' h2 h3 h4 => h v' w' h2 h3 (fun hv e => hv (h4.1 e).1)
end
/-- What lay answers, in the document's way and in the program's. -/
theorem layD_lay (l : AL) (a o : Atom) (lit : Int) (h : ALok l) : ((if a.pred = o.pred ∧ a.terms.length = o.terms.length then layL lit a.terms o.terms 0 l else none) = none ∧ lay (alT l) a o lit = none) ∨
    ∃ out fr, (if a.pred = o.pred ∧ a.terms.length = o.terms.length then layL lit a.terms o.terms 0 l else none) = some out ∧ ALok out ∧ lay (alT l) a o lit = some (alT out, fr) ∧ out.length ≤ l.length + a.terms.length := by
  unfold lay
  by_cases hc : a.pred = o.pred ∧ a.terms.length = o.terms.length
  · rw [if_pos hc, if_pos hc]
    rcases layL_law lit a.terms o.terms 0 l [] h with h1 | ⟨out, fr, h1, h2, h3, h4⟩
    · exact .inl h1
    · exact .inr ⟨out, fr, h1, h2, h3, h4⟩
  · rw [if_neg hc, if_neg hc]
    exact .inl ⟨rfl, rfl⟩
/-- What lay answers, in one shape. -/
def LayOutD (l : AL) (a o : Atom) (lit : Int) (w : World) (a2 : Option Addr) (n2 c2 : Nat) (b : Bool) (w' : World) : Prop :=
  match (if a.pred = o.pred ∧ a.terms.length = o.terms.length then layL lit a.terms o.terms 0 l else none) with
  | none => b = false
  | some out => b = true ∧ n2 = out.length ∧ w'.ownsRow w.heap.size 113 5 (.slice a2 n2 c2) n2 (flatTh out)
theorem c_layD2 (l : AL) (a o : Atom) (al : Option Addr) (nl cl : Nat) (aa ao : Option Addr) (na ca no co : Nat) (lit : Int) (w : World) (hl : ThsAt w al nl cl l) (hbig : nl + na ≤ 1000000000) (ha : TermsAt w aa na a.terms) (ho : TermsAt w ao no o.terms) :
    Calls Try.prog 44 #[.slice al nl cl, .agg #[.string a.pred, .slice aa na ca], .agg #[.string o.pred, .slice ao no co], .int .i64 lit] w fun e w' => ∃ a2 n2 c2 b, e = .returned (.tuple #[.slice a2 n2 c2, .bool b]) ∧ Ext w w' ∧ LayOutD l a o lit w a2 n2 c2 b w' := by
  refine (c_layD l a o al nl cl aa ao na ca no co lit w hl hbig ha ho).mono fun e w' h => ?_
  obtain ⟨h1, h2⟩ := h
  unfold LayOutD
  generalize (if a.pred = o.pred ∧ a.terms.length = o.terms.length then layL lit a.terms o.terms 0 l else none) = D at h2 ⊢
  cases D with
  | none => exact ⟨al, nl, cl, false, h2, h1, rfl⟩
  | some out =>
    obtain ⟨a', c', he, ho⟩ := h2
    exact ⟨a', _, c', true, he, h1, rfl, rfl, ho⟩
set_option maxRecDepth 100000 in
set_option maxHeartbeats 4000000 in
theorem c_search (r s : Rule) (hts : ∀ x ∈ s.body, x.atom.terms.length ≤ 64) (hsl : s.body.length ≤ 64) (rest : List Lit) : ∀ (l : AL) (at_ : List Nat) (lk : Nat) (al : Option Addr) (nl cl : Nat) (aa : Option Addr) (na ca : Nat) (ah : Option Addr) (nh ch : Nat) (ab : Option Addr) (nb cb : Nat) (ah' : Option Addr) (nh' ch' : Nat) (ab' : Option Addr) (nb' cb' : Nat) (w : World),
    s.body.drop at_.length = rest → at_.length ≤ s.body.length → ALok l → nl ≤ 64 * (at_.length + 1) → lk ≤ 65536 → ThsAt w al nl cl l → NumsAt w aa na ca at_ → RuleV w r ah nh ch ab nb cb → RuleV w s ah' nh' ch' ab' nb' cb' →
    Calls Try.prog 45 #[.agg #[.string r.head.pred, .slice ah nh ch, .slice ab nb cb], .agg #[.string s.head.pred, .slice ah' nh' ch', .slice ab' nb' cb'], .slice al nl cl, .slice aa na ca, .int .i64 (lk : Int)] w (SearchPost (srchR r.body rest (alT l) at_ lk) w) := by
  induction rest with
  | nil =>
    intro l at_ lk al nl cl aa na ca ah nh ch ab nb cb ah' nh' ch' ab' nb' cb' w hd hat hok hbig hlk hth hnu hr hs
    have hlen : at_.length = s.body.length := by
      have := List.drop_eq_nil_iff.1 hd
      omega
    have hna : na = nb' := by rw [← hnu.1, hlen, hs.body.2.1]
    subst hna
    have HNU := Lib.hid hnu
    have HLN := Lib.hid hnu.1
    have hn64 : na ≤ 64 := by rw [← hnu.1]; omega
    clear hd hth hr hs hnu
    obtain ⟨i0, hi, hz0, hz1, hz2⟩ := info_parts info_int
    go_enter Try.func45, Try.ntmps45
    go_upto_region 1 with (fail)
    refine wp_gen (fun W hW => ?_)
    have hb0 : Ext w W := by rw [hW]; go_grown
    have y2 : W.cell? ⟨w.heap.size + 1, 2, none⟩ = some (.slice ab' na cb') := by rw [hW]; go_simp
    clear hW
    have HNW := Lib.hid (HNU.out.keep (ext_alloc hb0 (.cells #[] 3)))
    have hfl : (intsV at_).length = na * 1 := by rw [intsV_len, HLN.out]; omega
    have HF := Lib.hid hfl
    clear hfl
    go_wp2_with (at_builtin; go_loud (refine wpList_append_keep rfl _ _ 29 rfl W.heap.size 3 i0 (.int .i64 0) 1 8 Try.underlying29 hi hz0 hz1 hz2 rfl (by decide) _ _ _ rfl (World.ownsRow_lit W #[] 0 (Nat.le_refl _) (by unfold maxLen; omega) rfl) aa na ca (intsV at_) rfl HNW.out.2.1.2 HF.out HNW.out.2.2 (intsV_one _) (by unfold maxLen; omega) (by omega) (size_alloc_le (Nat.le_refl _)) ?_); intro v1 w1 own1 g1 nn1)
    have hb1 := ext_ownB (ext_alloc (Below.refl _ W : Ext W W) (.cells #[] 3)) g1 (by intro g e; cases e; exact Nat.le_refl _)
    rw [Nat.zero_add] at own1
    have own2 : w1.ownsRow W.heap.size 3 1 v1 na (intsV at_) := own1
    have hnn := nn1 (by intro h; cases h)
    rcases own2.2 with ⟨h1, _⟩ | ⟨g, cap, cur, rfl, _⟩
    · exact absurd h1 hnn
    · go_ret2
      refine ⟨ext_trans hb0 hb1, g, cap, lk, ?_, ?_⟩
      · rw [HLN.out]
        rfl
      · rw [HLN.out]
        exact own_base own2 hb0.size
  | cons a rest ih =>
    intro l at_ lk al nl cl aa na ca ah nh ch ab nb cb ah' nh' ch' ab' nb' cb' w hd hat hok hbig hlk hth hnu hr hs
    have hla : s.body[at_.length]? = some a := by
      have e : (s.body.drop at_.length)[0]? = some a := by rw [hd]; rfl
      rw [List.getElem?_drop] at e
      simpa using e
    have hltn : at_.length < s.body.length := (List.getElem?_eq_some_iff.1 hla).1
    have hna : na < nb' := by rw [← hnu.1, ← hs.body.2.1]; exact hltn
    have HNU := Lib.hid hnu
    have HLN := Lib.hid hnu.1
    have HLA := Lib.hid hla
    have HTH := Lib.hid hth
    have HLL := Lib.hid hth.1
    have HR := Lib.hid hr
    have HS := Lib.hid hs
    have HLR := Lib.hid hr.body.2.1
    have hnb := hr.body.1
    have hn64 : nb' ≤ 64 := by rw [← hs.body.2.1]; exact hsl
    have hat64 := hts a (List.mem_of_getElem? hla)
    have HD := Lib.hid hd
    clear hd hth hr hs hnu hla
    obtain ⟨RES, hRES⟩ : ∃ R, R = srchR r.body (a :: rest) (alT l) at_ lk := ⟨_, rfl⟩
    rw [← hRES]
    have HRES := Lib.hid hRES
    clear hRES
    have hne : ((na : Int) == (nb' : Int)) = false := by simp; omega
    go_enter Try.func45, Try.ntmps45
    go_upto_region 1 with (fail)
    refine wp_gen (fun W hW => ?_)
    have hb0 : Ext w W := by rw [hW]; go_grown
    have x0 : W.cell? ⟨w.heap.size, 0, none⟩ = some (.string r.head.pred) := by rw [hW]; go_simp
    have x1 : W.cell? ⟨w.heap.size, 1, none⟩ = some (.slice ah nh ch) := by rw [hW]; go_simp
    have x2 : W.cell? ⟨w.heap.size, 2, none⟩ = some (.slice ab nb cb) := by rw [hW]; go_simp
    have y0 : W.cell? ⟨w.heap.size + 1, 0, none⟩ = some (.string s.head.pred) := by rw [hW]; go_simp
    have y1 : W.cell? ⟨w.heap.size + 1, 1, none⟩ = some (.slice ah' nh' ch') := by rw [hW]; go_simp
    have y2 : W.cell? ⟨w.heap.size + 1, 2, none⟩ = some (.slice ab' nb' cb') := by rw [hW]; go_simp
    clear hW
    go_wp2
    go_loopw [4, 13] (fun v i wj => ∃ (k lk' : Nat), k ≤ nb ∧ i = .int .i64 (k : Int) ∧ v = .int .i64 (lk' : Int) ∧ lk' ≤ 65536 ∧ Ext W wj ∧ RES = scanR (srchR r.body rest) (alT l) a.atom at_ (r.body.drop k) k lk') (fun _ i _ => nb - (intOf i).toNat)
    case atStart => exact ⟨0, lk, by omega, rfl, rfl, hlk, Below.refl _ _, HRES.out⟩
    case round =>
      obtain ⟨k, lk', hk, rfl, rfl, hlk', hb, hq⟩ := hrel
      have HQ := Lib.hid hq
      have HE := Lib.hid (ext_trans hb0 hb)
      have z0 := keep hb x0
      have z1 := keep hb x1
      have z2 := keep hb x2
      have v0 := keep hb y0
      have v1 := keep hb y1
      have v2 := keep hb y2
      clear hq
      by_cases hge : nb ≤ k
      · go_wp2
        go_ret2
        refine ⟨HE.out, ?_⟩
        rw [HQ.out, List.drop_of_length_le (by rw [HLR.out]; omega)]
        rfl
      · have hlt : k < nb := by omega
        obtain ⟨x, bx, ox, hx, rfl, xa, xn, xc, h0, h1, h2, h3, h4, h5, h6, h7, ht, hcap, _⟩ := (HR.out.body.keep HE.out).2.at hlt
        have HX := Lib.hid (drop_at hx)
        have hki : (k : Int) < (nb : Int) := by omega
        by_cases hm : 65536 < lk' + 1
        · have hmi : (65536 : Int) < (lk' : Int) + 1 := by omega
          go_wp2
          go_ret2
          refine ⟨HE.out, ?_⟩
          rw [HQ.out, HX.out, scanR, if_pos hm]
          rfl
        · have hmi : decide ((65536 : Int) < (lk' : Int) + 1) = false := decide_eq_false (by omega)
          have hwl : wrap64 ((lk' : Int) + 1) = (lk' : Int) + 1 := by unfold wrap64; omega
          have HMN := Lib.hid hm
          have HLK := Lib.hid hlk'
          clear hm hlk'
          obtain ⟨bs, os, eab, sa, sn, sc, g0, g1, g2, g3, g4, g5, g6, g7, st, scap, _⟩ := (HS.out.body.keep HE.out).2.2 at_.length a HLA.out
          subst eab
          rw [HLN.out] at g1 g2
          have hnai : (na : Int) < (nb' : Int) := by omega
          have XT := Lib.hid ht
          have STT := Lib.hid st
          clear hx ht st h0 h3 h4 h5 h6 h7 g0 g3 g4 g5 g6 g7 hcap scap
          have hdd : Ext wr wr.drew := ext_drew (Below.refl _ _)
          go_upto_region 10 with (fail)
          have hcast : (lk' : Int) + 1 = ((lk' + 1 : Nat) : Int) := by omega
          rw [hwl, hcast]
          clear hwl hcast hmi
          have HTD := Lib.hid ((HTH.out.keep HE.out).keep hdd)
          have HXD := Lib.hid (XT.out.keep hdd)
          have HSD := Lib.hid (STT.out.keep hdd)
          have hbb : nl + sn ≤ 1000000000 := by have := STT.out.2.1; omega
          go_cut [14, 15] (fun v14 v15 wc => Ext wr wc ∧ ∃ a2 n2 c2 b, v14 = .slice a2 n2 c2 ∧ v15 = .bool b ∧ LayOutD l a.atom x.atom (k : Int) wr a2 n2 c2 b wc)
          case first =>
            go_region_held3 (fun w' => w'.cell? ⟨w.heap.size, 2, none⟩ = some (.slice (some ⟨bx, ox, none⟩) nb cb) ∧ w'.cell? ⟨w.heap.size + 1, 2, none⟩ = some (.slice (some ⟨bs, os, none⟩) nb' cb') ∧ w'.cell? ⟨bx, ox + k * 8 + 1, none⟩ = some (.string x.atom.pred) ∧ w'.cell? ⟨bx, ox + k * 8 + 2, none⟩ = some (.slice xa xn xc) ∧ w'.cell? ⟨bs, os + na * 8 + 1, none⟩ = some (.string a.atom.pred) ∧ w'.cell? ⟨bs, os + na * 8 + 2, none⟩ = some (.slice sa sn sc))
              (first | go_keep | exact ⟨keep g6 z2, keep g6 v2, keep g6 h1, keep g6 h2, keep g6 g1, keep g6 g2⟩ | fail)
              (first | (go_at_call 44; (with_reducible refine (c_layD2 l a.atom x.atom al nl cl sa xa sn sc xn xc (k : Int) wr.drew HTD.out hbb HSD.out HXD.out).mono ?_); rintro e w6 ⟨a2, n2, c2, b2, rfl, h6, ld⟩; have g6 := ext_trans hdd h6) | fail)
            all_goals
              go_wp2
              go_meet
              exact ⟨g6, a2, n2, c2, b2, rfl, rfl, ld⟩
          case rest =>
            obtain ⟨hc, a2, n2, c2, b2, rfl, rfl, ld⟩ := hcut
            have hstep : scanR (srchR r.body rest) (alT l) a.atom at_ (r.body.drop k) k lk' = match lay (alT l) a.atom x.atom (k : Int) with
                | Option.none => scanR (srchR r.body rest) (alT l) a.atom at_ (r.body.drop (k + 1)) (k + 1) (lk' + 1)
                | some (m', _) => match srchR r.body rest m' (at_ ++ [k]) (lk' + 1) with
                  | .many => .many
                  | .found l => .found l
                  | .none lk2 => scanR (srchR r.body rest) (alT l) a.atom at_ (r.body.drop (k + 1)) (k + 1) lk2 := by
              rw [HX.out, scanR, if_neg HMN.out]
              cases lay (alT l) a.atom x.atom (k : Int) with
              | none => rfl
              | some q => rfl
            have HSTEP := Lib.hid hstep
            have HLK1 : Hid (lk' + 1 ≤ 65536) := by have := HMN.out; show _ ≤ _; omega
            have HE2 := Lib.hid (ext_trans hb hc)
            clear hstep
            rcases layD_lay l a.atom x.atom (k : Int) hok with ⟨e1, e2⟩ | ⟨out, fr, e1, e2, e3, e4⟩
            · have hbf : b2 = false := by unfold LayOutD at ld; rw [e1] at ld; exact ld
              subst hbf
              go_wp2
              go_roundw
              case rel => exact ⟨k + 1, lk' + 1, by omega, by go_num, rfl, HLK1.out, HE2.out, by rw [HQ.out, HSTEP.out, e2]⟩
              case measure => simp [intOf]; omega
            · unfold LayOutD at ld
              rw [e1] at ld
              obtain ⟨rfl, rfl, ho⟩ := ld
              obtain ⟨i0, hi, hz0, hz1, hz2⟩ := info_parts info_int
              have HNW := Lib.hid (HNU.out.keep (ext_trans HE.out hc))
              have hfl : (intsV at_).length = na * 1 := by rw [intsV_len, HLN.out]; omega
              have HF := Lib.hid hfl
              have k2 := keep hc z2
              have m2 := keep hc v2
              have k0 := keep hc z0
              have k1 := keep hc z1
              have m0 := keep hc v0
              have m1 := keep hc v1
              have IH := Lib.hid ih
              have HO := Lib.hid ho
              clear hfl ih ho e1
              have hd2 : s.body.drop (at_ ++ [k]).length = rest := by
                rw [List.length_append, List.length_singleton, ← List.tail_drop, HD.out]
                rfl
              have ARG : Hid (∀ (g cap : Nat) (w1 : World), Ext wc w1 → NumsAt w1 (some ⟨g, 0, none⟩) (na + 1) cap (at_ ++ [k]) → Calls Try.prog 45 #[.agg #[.string r.head.pred, .slice ah nh ch, .slice (some ⟨bx, ox, none⟩) nb cb], .agg #[.string s.head.pred, .slice ah' nh' ch', .slice (some ⟨bs, os, none⟩) nb' cb'], .slice a2 out.length c2, .slice (some ⟨g, 0, none⟩) (na + 1) cap, .int .i64 ((lk' : Int) + 1)] w1 fun e w' => ∃ a n c x, e = .returned (.tuple #[.slice a n c, .int .i64 x]) ∧ Ext w1 w' ∧ SearchOut (srchR r.body rest (alT out) (at_ ++ [k]) (lk' + 1)) w1.heap.size a n c x w') := by
                intro g cap w1 q1 q2
                have q3 := ext_trans HE.out (ext_trans hc q1)
                obtain ⟨ao, co, eo, hth⟩ := own_ths HO.out
                cases eo
                have h := IH.out out (at_ ++ [k]) (lk' + 1) a2 out.length c2 (some ⟨g, 0, none⟩) (na + 1) cap ah nh ch (some ⟨bx, ox, none⟩) nb cb ah' nh' ch' (some ⟨bs, os, none⟩) nb' cb' w1 hd2 (by simp; omega) e2 (by rw [List.length_append, List.length_singleton]; have := HLL.out; omega) HLK1.out (hth.keep q1) q2 (HR.out.keep q3) (HS.out.keep q3)
                rw [show ((lk' + 1 : Nat) : Int) = (lk' : Int) + 1 by omega] at h
                exact h.mono fun e w' hp => search_one hp
              have HE3 := Lib.hid e3
              clear hd2 e2 e3 e4
              go_upto_region 14 with (at_builtin; go_loud (refine wpList_append_any rfl _ _ 29 rfl wc.heap.size 3 i0 (.int .i64 0) 1 8 Try.underlying29 hi hz0 hz1 hz2 rfl (by decide) _ _ _ rfl (World.ownsRow_nil _ _ _ _) aa na ca (intsV at_) rfl HNW.out.2.1.2 HF.out HNW.out.2.2 (intsV_one _) (by unfold maxLen; omega) (by omega) (Nat.le_refl _) ?_); intro v16 w16 own16 g16)
              have e16 := ext_ownB (Below.refl _ wc : Ext wc wc) g16 (by intro g e; cases e)
              rw [Nat.zero_add, List.nil_append] at own16
              have OWN := Lib.hid own16
              have p0 := keep e16 k0
              have p1 := keep e16 k1
              have p2 := keep e16 k2
              have o0 := keep e16 m0
              have o1 := keep e16 m1
              have o2 := keep e16 m2
              have E16 := Lib.hid e16
              clear own16 g16 e16 z0 z1 z2 v0 v1 v2 h1 h2 g1 g2
              go_cut [17, 18] (fun v17 v18 wd => Ext wc wd ∧ ∃ a n c x, v17 = .slice a n c ∧ v18 = .int .i64 x ∧ SearchOut (srchR r.body rest (alT out) (at_ ++ [k]) (lk' + 1)) wc.heap.size a n c x wd)
              case first =>
                have hki' : (k : Int) ≤ (k : Int) := Int.le_refl _
                have hsz16 : w.heap.size + 1 < w16.heap.size := World.block_lt_of_cell? _ _ o0
                go_region_held3 (fun w' => w'.cell? ⟨w.heap.size, 0, none⟩ = some (.string r.head.pred) ∧ w'.cell? ⟨w.heap.size, 1, none⟩ = some (.slice ah nh ch) ∧ w'.cell? ⟨w.heap.size, 2, none⟩ = some (.slice (some ⟨bx, ox, none⟩) nb cb) ∧ w'.cell? ⟨w.heap.size + 1, 0, none⟩ = some (.string s.head.pred) ∧ w'.cell? ⟨w.heap.size + 1, 1, none⟩ = some (.slice ah' nh' ch') ∧ w'.cell? ⟨w.heap.size + 1, 2, none⟩ = some (.slice (some ⟨bs, os, none⟩) nb' cb'))
                  (first | go_keep | exact ⟨keep q1 k0, keep q1 k1, keep q1 k2, keep q1 m0, keep q1 m1, keep q1 m2⟩ | exact ⟨keep q6 k0, keep q6 k1, keep q6 k2, keep q6 m0, keep q6 m1, keep q6 m2⟩ | fail)
                  (first | ((refine step_push_int w16 wc v16 na at_ k OWN.out (by omega) E16.out (by rfl) _ _ (by rfl) (by rfl) (by rfl) ?_); intro g cap w1 hown1 q1) | (go_at_call 45; (with_reducible refine (ARG.out g cap w1 q1 (nums_of hown1)).mono ?_); rintro e w6 ⟨a6, n6, c6, x6, rfl, h6, so⟩; have q6 := ext_trans q1 h6) | fail)
                all_goals
                  go_wp2
                  go_meet
                  exact ⟨q6, a6, n6, c6, x6, rfl, rfl, search_base so q1.size⟩
              case rest =>
                obtain ⟨q6, a6, n6, c6, x6, rfl, rfl, so⟩ := hcut
                have HE6 := Lib.hid (ext_trans (ext_trans HE.out hc) q6)
                have HEW := Lib.hid (ext_trans HE2.out q6)
                obtain ⟨R2, hR2⟩ : ∃ R, R = srchR r.body rest (alT out) (at_ ++ [k]) (lk' + 1) := ⟨_, rfl⟩
                rw [← hR2] at so
                have HR2 := Lib.hid hR2
                clear hR2
                cases R2 with
                | many =>
                  obtain ⟨rfl, rfl, rfl, rfl⟩ := so
                  have nn := nil_neI
                  go_wp2
                  go_ret2
                  refine ⟨HE6.out, ?_⟩
                  rw [HQ.out, HSTEP.out, HE3.out]
                  simp only
                  rw [← HR2.out]
                  rfl
                | none lk2 =>
                  obtain ⟨rfl, rfl, rfl, rfl⟩ := so
                  have nn := nil_neI
                  have hle := srchR_le _ _ _ _ _ _ HLK1.out HR2.out.symm
                  have HLE := Lib.hid hle
                  clear hle
                  go_wp2
                  go_roundw
                  case rel => exact ⟨k + 1, lk2, by omega, by go_num, rfl, HLE.out, HEW.out, by rw [HQ.out, HSTEP.out, HE3.out]; simp only; rw [← HR2.out]⟩
                  case measure => simp [intOf]; omega
                | found L =>
                  obtain ⟨g6, lk6, rfl, rfl, rfl, hown6⟩ := so
                  have nn := some_neI ⟨g6, 0, Option.none⟩ L.length c6
                  have HO6 := Lib.hid hown6
                  clear hown6
                  go_wp2
                  go_ret2
                  refine ⟨HE6.out, ?_⟩
                  rw [HQ.out, HSTEP.out, HE3.out]
                  simp only
                  rw [← HR2.out]
                  exact ⟨g6, c6, lk6, rfl, own_base HO6.out (ext_trans HE.out hc).size⟩
end Go.Proofs.Ytcphjfggjjonpaa
