/- The document's lay: its plain law and its walk. -/
import Derived.Test.YtcphjfggjjonpaaRef24
import Derived.Test.YtcphjfggjjonpaaOwn
namespace Go.Proofs.Ytcphjfggjjonpaa
open Go.ChangeShapes Go.WideShapes Go.ChangeAt Go.RowKit
/-- A list of variables and what they became. -/
abbrev AL := List (ByteArray × Thing)
def alT (l : AL) : TMap := fun v => (l.find? (fun p => decide (p.1 = v))).map (·.2)
def named (l : AL) (v : ByteArray) : Bool := l.any fun p => decide (p.1 = v)
def clash (l : AL) (v : ByteArray) (x : Thing) : Bool := l.any fun p => decide (p.1 = v) && !decide (p.2 = x)
def layL (lit : Int) : List Term → List Term → Nat → AL → Option AL
  | t :: ts, o :: os, i, out =>
    if t.kind = 3 ∧ ¬ o = t then none
    else if t.kind = 1 then
      (if clash out t.text (thingOf o lit i) = true then none
      else if named out t.text = true then layL lit ts os (i + 1) out
      else layL lit ts os (i + 1) (out ++ [(t.text, thingOf o lit i)]))
    else layL lit ts os (i + 1) out
  | _, _, _, out => some out
def ALok (l : AL) : Prop := (l.map (·.1)).Nodup
theorem alT_none {l : AL} {v : ByteArray} : alT l v = none ↔ named l v = false := by
  unfold alT named
  rw [Option.map_eq_none_iff, List.find?_eq_none, List.any_eq_false]
theorem named_mem {l : AL} {v : ByteArray} : named l v = true ↔ v ∈ l.map (·.1) := by
  unfold named
  rw [List.any_eq_true, List.mem_map]
  simp
theorem alT_some {l : AL} (h : ALok l) {v : ByteArray} {y : Thing} (hy : alT l v = some y) (x : Thing) : clash l v x = !decide (y = x) := by
  unfold alT at hy
  rw [Option.map_eq_some_iff] at hy
  obtain ⟨p, hp, rfl⟩ := hy
  have hpm := List.mem_of_find?_eq_some hp
  have hpv : p.1 = v := by simpa using List.find?_some hp
  have uniq : ∀ q ∈ l, q.1 = v → q = p := by
    intro q hq hqv
    clear hp
    induction l with
    | nil => cases hq
    | cons a l ih =>
      have hnd := List.nodup_cons.1 (show (a.1 :: l.map (·.1)).Nodup from h)
      rcases List.mem_cons.1 hq with rfl | hq' <;> rcases List.mem_cons.1 hpm with rfl | hp'
      · rfl
      · exact absurd (List.mem_map.2 ⟨p, hp', by rw [hpv, hqv]⟩) hnd.1
      · exact absurd (List.mem_map.2 ⟨q, hq', by rw [hqv, hpv]⟩) hnd.1
      · exact ih hnd.2 hp' hq'
  rw [Bool.eq_iff_iff]
  unfold clash
  rw [List.any_eq_true]
  constructor
  · rintro ⟨q, hq, h2⟩
    simp only [Bool.and_eq_true, decide_eq_true_eq] at h2
    rw [uniq q hq h2.1] at h2
    exact h2.2
  · intro h2
    exact ⟨p, hpm, by simp only [Bool.and_eq_true, decide_eq_true_eq]; exact ⟨hpv, h2⟩⟩
theorem alT_snoc {l : AL} {v : ByteArray} {x : Thing} (hn : named l v = false) : alT (l ++ [(v, x)]) = updT (alT l) v x := by
  funext u
  unfold alT updT
  rw [List.find?_append]
  by_cases hu : u = v
  · subst hu
    have : l.find? (fun p => decide (p.1 = u)) = none := by
      have := (alT_none (l := l) (v := u)).2 hn
      unfold alT at this
      simpa using this
    rw [this, if_pos rfl]
    simp
  · rw [if_neg hu]
    have : List.find? (fun p : ByteArray × Thing => decide (p.1 = u)) [(v, x)] = none := by
      simp [List.find?, show ¬ v = u from fun e => hu e.symm]
    rw [this]
    simp
theorem ALok.snoc {l : AL} (h : ALok l) {v : ByteArray} {x : Thing} (hn : named l v = false) : ALok (l ++ [(v, x)]) := by
  unfold ALok
  rw [List.map_append, List.nodup_append]
  refine ⟨h, by simp, ?_⟩
  intro a ha b hb e
  simp at hb
  subst hb e
  have := named_mem.2 ha
  rw [hn] at this
  cases this
theorem layL_law (lit : Int) (ts os : List Term) (i : Nat) (out : AL) (fr : List ByteArray) (h : ALok out) :
    (layL lit ts os i out = none ∧ layGo lit ts os i (alT out) fr = none) ∨ ∃ out' fr', layL lit ts os i out = some out' ∧ ALok out' ∧ layGo lit ts os i (alT out) fr = some (alT out', fr') ∧ out'.length ≤ out.length + ts.length := by
  induction ts generalizing os i out fr with
  | nil => exact .inr ⟨out, fr, by simp [layL], h, by simp [layGo], by simp⟩
  | cons t ts ih =>
    cases os with
    | nil => exact .inr ⟨out, fr, by simp [layL], h, by simp [layGo], by omega⟩
    | cons o os =>
      rw [layL, layGo]
      by_cases h3 : t.kind = 3
      · rw [if_pos h3]
        by_cases ho : o = t
        · rw [if_neg (fun hh => hh.2 ho), if_neg (by omega), if_pos ho]
          rcases ih os (i + 1) out fr h with h1 | ⟨out', fr', h1, h2, h4, h5⟩
          · exact .inl h1
          · exact .inr ⟨out', fr', h1, h2, h4, by simp; omega⟩
        · rw [if_pos ⟨h3, ho⟩, if_neg ho]
          exact .inl ⟨rfl, rfl⟩
      · rw [if_neg (fun hh => h3 hh.1), if_neg h3]
        by_cases h1 : t.kind = 1
        · rw [if_pos h1, if_pos h1]
          cases hm : alT out t.text with
          | none =>
            have hn := alT_none.1 hm
            have hc : clash out t.text (thingOf o lit i) = false := by
              unfold clash
              unfold named at hn
              rw [List.any_eq_false] at hn ⊢
              intro p hp hh
              simp only [Bool.and_eq_true] at hh
              exact hn p hp hh.1
            rw [if_neg (by simp [hc]), if_neg (by simp [hn])]
            rcases ih os (i + 1) _ (fr ++ [t.text]) (h.snoc (x := thingOf o lit i) hn) with h1 | ⟨out', fr', h1, h2, h4, h5⟩
            · rw [alT_snoc hn] at h1
              exact .inl h1
            · rw [alT_snoc hn] at h4
              exact .inr ⟨out', fr', h1, h2, h4, by simp at h5 ⊢; omega⟩
          | some y =>
            have hc := alT_some h hm (thingOf o lit i)
            have hn : named out t.text = true := by
              cases hh : named out t.text with
              | true => rfl
              | false => rw [alT_none.2 hh] at hm; cases hm
            by_cases hy : y = thingOf o lit i
            · rw [if_neg (by rw [hc]; simp [hy]), if_pos hn]
              simp only [if_pos hy]
              rcases ih os (i + 1) out fr h with h1 | ⟨out', fr', h1, h2, h4, h5⟩
              · exact .inl h1
              · exact .inr ⟨out', fr', h1, h2, h4, by simp; omega⟩
            · rw [if_pos (by rw [hc]; simp [hy])]
              simp only [if_neg hy]
              exact .inl ⟨by trivial, by trivial⟩
        · rw [if_neg h1, if_neg h1]
          rcases ih os (i + 1) out fr h with h1 | ⟨out', fr', h1, h2, h4, h5⟩
          · exact .inl h1
          · exact .inr ⟨out', fr', h1, h2, h4, by simp; omega⟩
def thV (p : ByteArray × Thing) : List Value := [.string p.1, .int .i64 p.2.t.kind, .string p.2.t.text, .int .i64 p.2.literal, .int .i64 p.2.place]
def flatTh (l : AL) : List Value := l.flatMap thV
theorem flatTh_len (l : AL) : (flatTh l).length = l.length * 5 := by
  induction l with
  | nil => rfl
  | cons t ts ih => simp only [flatTh, thV, List.flatMap_cons, List.length_append, List.length_cons, List.length_nil] at ih ⊢; omega
theorem flatTh_append (a b : AL) : flatTh (a ++ b) = flatTh a ++ flatTh b := by simp [flatTh]
theorem flatTh_one (l : AL) : ∀ u ∈ flatTh l, u.oneCell' = true := by
  intro u hu
  obtain ⟨p, _, h⟩ := List.mem_flatMap.1 hu
  simp [thV] at h
  rcases h with rfl | rfl | rfl | rfl | rfl <;> rfl
theorem flatTh_get (l : AL) (i j : Nat) (p : ByteArray × Thing) (h : l[i]? = some p) (hj : j < 5) : (flatTh l)[i * 5 + j]? = (thV p)[j]? := by
  induction l generalizing i with
  | nil => simp at h
  | cons a ts ih =>
    have e : flatTh (a :: ts) = thV a ++ flatTh ts := rfl
    cases i with
    | zero =>
      simp at h
      subst h
      rw [e, Nat.zero_mul, Nat.zero_add, List.getElem?_append_left (by simpa [thV] using hj)]
    | succ i =>
      rw [e, show (i + 1) * 5 + j = (i * 5 + j) + 5 by omega, List.getElem?_append_right (by simp [thV]), show (i * 5 + j) + 5 - (thV a).length = i * 5 + j by simp [thV]]
      exact ih i (by simpa using h)
theorem info_th : (Try.prog.info? 113).map (fun i => (i.zero, i.size, i.bytes)) = some (some (.agg #[.string ⟨#[]⟩, .int .i64 0, .string ⟨#[]⟩, .int .i64 0, .int .i64 0]), 5, 56) := by kernel_rfl
/-- Two things, part by part, are one. -/
def thEq (p q : ByteArray × Thing) : Bool := decide (p = q)
theorem neq_th (v v' : ByteArray) (x y : Thing) (w : World) : (binOp .neq 113 (.agg #[.string v, .int .i64 x.t.kind, .string x.t.text, .int .i64 x.literal, .int .i64 x.place]) (.agg #[.string v', .int .i64 y.t.kind, .string y.t.text, .int .i64 y.literal, .int .i64 y.place])).run Try.prog w = .ok (.bool (!thEq (v, x) (v', y))) w := by
  obtain ⟨⟨k, s⟩, l, p⟩ := x
  obtain ⟨⟨k', s'⟩, l', p'⟩ := y
  have e := toList_eq_iff s s'.toList
  have e2 : (⟨s'.toList.toArray⟩ : ByteArray) = s' := ((toList_eq_iff s' s'.toList).1 rfl).symm
  rw [e2] at e
  have f := toList_eq_iff v v'.toList
  have f2 : (⟨v'.toList.toArray⟩ : ByteArray) = v' := ((toList_eq_iff v' v'.toList).1 rfl).symm
  rw [f2] at f
  simp only [go_sem]
  simp [go_sem]
  by_cases h : k = k' <;> by_cases h2 : s = s' <;> by_cases h3 : l = l' <;> by_cases h4 : p = p' <;> by_cases h5 : v = v' <;> simp [thEq, h, h2, h3, h4, h5, e, f]
/-- A slice of things: its cells. -/
def ThsAt (w : World) (a : Option Addr) (n cap : Nat) (l : AL) : Prop := l.length = n ∧ capOk a n cap ∧ ∀ ad, a = some ad → ∀ j u, (flatTh l)[j]? = some u → w.cell? (ad.add j) = some u
theorem ThsAt.keep {W w : World} (hb : Ext W w) {a : Option Addr} {n cap : Nat} {l : AL} (h : ThsAt W a n cap l) : ThsAt w a n cap l := ⟨h.1, h.2.1, fun ad e j u hu => Ytcphjfggjjonpaa.keep hb (h.2.2 ad e j u hu)⟩
theorem own_ths {w : World} {base : Nat} {v : Value} {n : Nat} {l : AL} (h : w.ownsRow base 113 5 v n (flatTh l)) : ∃ a cap, v = .slice a n cap ∧ ThsAt w a n cap l := by
  have hl : l.length = n := by have := h.1; rw [flatTh_len] at this; omega
  rcases h.2 with ⟨rfl, rfl⟩ | ⟨g, cap, cur, rfl, _, hg, hc, _⟩
  · exact ⟨none, 0, rfl, hl, ⟨Nat.le_refl _, fun _ => ⟨rfl, rfl⟩⟩, fun ad e => by cases e⟩
  · refine ⟨_, cap, rfl, hl, ⟨hc, by intro e; cases e⟩, fun ad e j u hu => ?_⟩
    cases e
    exact h.cells (g := g) rfl j u hu
/-- What the document's lay answers. -/
def LayDPost (l : AL) (a o : Atom) (lit : Int) (al : Option Addr) (nl cl : Nat) (w : World) (e : Ending) (w' : World) : Prop :=
  Ext w w' ∧ match (if a.pred = o.pred ∧ a.terms.length = o.terms.length then layL lit a.terms o.terms 0 l else none) with
  | none => e = .returned (.tuple #[.slice al nl cl, .bool false])
  | some out => ∃ a' c', e = .returned (.tuple #[.slice a' out.length c', .bool true]) ∧ w'.ownsRow w.heap.size 113 5 (.slice a' out.length c') out.length (flatTh out)
theorem layL_step {lit : Int} {ts os : List Term} {k : Nat} {t o : Term} {out : AL} (ht : ts.drop k = t :: ts.drop (k + 1)) (ho : os.drop k = o :: os.drop (k + 1)) :
    layL lit (ts.drop k) (os.drop k) k out = if t.kind = 3 ∧ ¬ o = t then none
    else if t.kind = 1 then
      (if clash out t.text (thingOf o lit k) = true then none
      else if named out t.text = true then layL lit (ts.drop (k + 1)) (os.drop (k + 1)) (k + 1) out
      else layL lit (ts.drop (k + 1)) (os.drop (k + 1)) (k + 1) (out ++ [(t.text, thingOf o lit k)]))
    else layL lit (ts.drop (k + 1)) (os.drop (k + 1)) (k + 1) out := by
  rw [ht, ho, layL]
end Go.Proofs.Ytcphjfggjjonpaa
