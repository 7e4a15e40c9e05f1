/- strconv.Itoa laid; the table that it reads stands as the world grows. The walk of print.renamer.term: variables get new names by their order. -/
import Derived.Test.YtlalgaioiapjmaaGreatDoorG5
import Derived.Test.YtlalgaioiapjmaaGreatDoorG20
import Derived.Shelf.Strconv.Itoa3
import Derived.Shelf.SlGeneric
import Derived.Ground.NamesProg
import Derived.Lib.AppendIntMem
namespace Go.Proofs.YtlalgaioiapjmaaGreatDoor
open Go.ChangeShapes Go.WideShapes Go.ChangeAt Go.RowKit Go.Shelf Go.Lib Go.Sort
def Tryz.itoaM_ren : Go.Shelf.Ren := ⟨fun | 171 => 145 | 243 => 164 | 246 => 171 | 283 => 175 | 284 => 176 | 285 => 177 | 286 => 178 | 129 => 91 | 317 => 179 | 318 => 180 | 319 => 181 | 320 => 182 | 337 => 183 | 338 => 184 | n => n, fun | 3 => 3 | 9 => 9 | 2 => 2 | 4 => 4 | 171 => 233 | 0 => 0 | 53 => 141 | 37 => 235 | 5 => 5 | 173 => 236 | 212 => 240 | 51 => 139 | 20 => 20 | 213 => 241 | 46 => 98 | 232 => 242 | 233 => 243 | n => n, fun | 17 => 0 | 18 => 1 | 19 => 2 | n => n⟩
theorem Tryz.itoaM : Go.Proofs.LaysM.n171 Tryz.prog Tryz.itoaM_ren := {
  mixed := by kernel_rfl, f129 := Tryz.func91.trans (congrArg some (by kernel_rfl)), f171 := Tryz.func145.trans (congrArg some (by kernel_rfl)), f243 := Tryz.func164.trans (congrArg some (by kernel_rfl)), f246 := Tryz.func171.trans (congrArg some (by kernel_rfl)), f283 := Tryz.func175.trans (congrArg some (by kernel_rfl)), f284 := Tryz.func176.trans (congrArg some (by kernel_rfl)), f285 := Tryz.func177.trans (congrArg some (by kernel_rfl)),
  f286 := Tryz.func178.trans (congrArg some (by kernel_rfl)), f317 := Tryz.func179.trans (congrArg some (by kernel_rfl)), f318 := Tryz.func180.trans (congrArg some (by kernel_rfl)), f319 := Tryz.func181.trans (congrArg some (by kernel_rfl)), f320 := Tryz.func182.trans (congrArg some (by kernel_rfl)), f337 := Tryz.func183.trans (congrArg some (by kernel_rfl)), f338 := Tryz.func184.trans (congrArg some (by kernel_rfl)), t0 := Tryz.underlying0,
  a0 := Tryz.isAgg0, z0 := Tryz.sizeOf0, v0 := Tryz.zeroValue0, t2 := Tryz.underlying2, a2 := Tryz.isAgg2, z2 := Tryz.sizeOf2, v2 := Tryz.zeroValue2, t3 := Tryz.underlying3,
  a3 := Tryz.isAgg3, z3 := Tryz.sizeOf3, v3 := Tryz.zeroValue3, t4 := Tryz.underlying4, a4 := Tryz.isAgg4, z4 := Tryz.sizeOf4, v4 := Tryz.zeroValue4, t5 := Tryz.underlying5,
  a5 := Tryz.isAgg5, z5 := Tryz.sizeOf5, v5 := Tryz.zeroValue5, t9 := Tryz.underlying9, a9 := Tryz.isAgg9, z9 := Tryz.sizeOf9, v9 := Tryz.zeroValue9, t20 := Tryz.underlying20,
  a20 := Tryz.isAgg20, z20 := Tryz.sizeOf20, v20 := Tryz.zeroValue20, t37 := Tryz.underlying235, a37 := Tryz.isAgg235, z37 := Tryz.sizeOf235, v37 := Tryz.zeroValue235, t46 := Tryz.underlying98,
  a46 := Tryz.isAgg98, z46 := Tryz.sizeOf98, v46 := Tryz.zeroValue98, t51 := Tryz.underlying139, a51 := Tryz.isAgg139, z51 := Tryz.sizeOf139, v51 := Tryz.zeroValue139, t53 := Tryz.underlying141,
  a53 := Tryz.isAgg141, z53 := Tryz.sizeOf141, v53 := Tryz.zeroValue141, t171 := Tryz.underlying233, a171 := Tryz.isAgg233, z171 := Tryz.sizeOf233, v171 := Tryz.zeroValue233, t173 := Tryz.underlying236,
  a173 := Tryz.isAgg236, z173 := Tryz.sizeOf236, v173 := Tryz.zeroValue236, t212 := Tryz.underlying240, a212 := Tryz.isAgg240, z212 := Tryz.sizeOf240, v212 := Tryz.zeroValue240, t213 := Tryz.underlying241,
  a213 := Tryz.isAgg241, z213 := Tryz.sizeOf241, t232 := Tryz.underlying242, a232 := Tryz.isAgg242, z232 := Tryz.sizeOf242, v232 := Tryz.zeroValue242, t233 := Tryz.underlying243, a233 := Tryz.isAgg243,
  z233 := Tryz.sizeOf243, v233 := Tryz.zeroValue243, g17 := by kernel_rfl, g18 := by kernel_rfl, g19 := by kernel_rfl, i0 := by kernel_rfl, i2 := by kernel_rfl, i3 := by kernel_rfl,
  i4 := by kernel_rfl, i5 := by kernel_rfl, i9 := by kernel_rfl, i20 := by kernel_rfl, i37 := by kernel_rfl, i46 := by kernel_rfl, i51 := by kernel_rfl, i53 := by kernel_rfl,
  i171 := by kernel_rfl, i173 := by kernel_rfl, i212 := by kernel_rfl, i232 := by kernel_rfl, i233 := by kernel_rfl, m17 := by kernel_rfl, m18 := by kernel_rfl, m19 := by kernel_rfl }
/-- The table of tens that strconv reads. -/
abbrev TabOk (w : World) : Prop := Lib.TabIs Tryz.prog w "internal/strconv.uint64pow10" .u64 Lib.pow10Tab
theorem TabOk.ext {w w' : World} (h : TabOk w) (e : Ext w w') : TabOk w' := Lib.tabBelow_of_tabIs h w' e
theorem c_itoa (n : Nat) (hn : n ≤ 1000000000) (w : World) (h : TabOk w) :
    Calls Tryz.prog 145 #[.int .i64 (n : Int)] w fun e w' => e = .returned (.string ⟨(Lib.itoa (n : Int)).toArray⟩) ∧ Ext w w' :=
  (Any.strconv_Itoa Tryz.itoaM (n : Int) (by omega) (by omega) w h).mono fun e w' ⟨h1, k, os, h2⟩ => ⟨h1, by
    subst h2
    exact Lib.below_grow _ w (Nat.le_refl _) k os⟩
end Go.Proofs.YtlalgaioiapjmaaGreatDoor
namespace Go.Proofs.YtlalgaioiapjmaaGreatDoor
open Go.ChangeShapes Go.WideShapes Go.ChangeAt Go.RowKit
open K (AL Term varK)
/-- The k-th new name. -/
def nmV (k : Nat) : ByteArray := ⟨#[86]⟩ ++ ⟨(Lib.itoa (k : Int)).toArray⟩
def renT (m : AL ByteArray) (t : Term) : AL ByteArray × Term :=
  if varK t.kind then
    match getL m t.text with
    | some v => (m, { t with text := v })
    | none => (putL m t.text (nmV (m.length + 1)), { t with text := nmV (m.length + 1) })
  else (m, t)
/-- A map from texts to texts, none of them empty. -/
def RMap (w : World) (b : Nat) (m : AL ByteArray) : Prop := LMap Value.string okS w b (m.map fun p => (p.1, Value.string p.2)) ∧ ∀ p ∈ m, p.2 ≠ ⟨#[]⟩ ∧ p.2.size ≤ maxLen
theorem zero_str (w : World) : (zeroValue 9).run Tryz.prog w = .ok (.string ⟨#[]⟩) w := by kernel_rfl
theorem nmV_ne (k : Nat) : nmV k ≠ ⟨#[]⟩ := fun h => by
  have := congrArg ByteArray.size h
  unfold nmV at this
  rw [ByteArray.size_append] at this
  have h1 : (⟨#[86]⟩ : ByteArray).size = 1 := rfl
  have h2 : (⟨#[]⟩ : ByteArray).size = 0 := rfl
  omega
theorem getL_mem {α β : Type} [DecidableEq α] {l : List (α × β)} {k : α} {v : β} (h : getL l k = some v) : ∃ p ∈ l, p.2 = v := by
  induction l with
  | nil => cases h
  | cons q l ih =>
    obtain ⟨a, b⟩ := q
    unfold getL at h
    split at h
    · exact ⟨(a, b), List.mem_cons_self .., by simpa using h⟩
    · obtain ⟨p, hp1, hp2⟩ := ih h
      exact ⟨p, List.mem_cons_of_mem _ hp1, hp2⟩
theorem RMap.get {w : World} {b : Nat} {m : AL ByteArray} (h : RMap w b m) (k : ByteArray) (hk : okS k) :
    (Instr.lookup 166 (.map (some b)) (.string k) false).run Tryz.prog w = .ok (.string ((getL m k).getD ⟨#[]⟩)) w := by
  have q := LMap.look (P := Tryz.prog) h.1 (strEnc Tryz.underlying9) Tryz.underlying166 (zero_str w) k hk false
  rw [getL_map] at q
  refine Eq.trans q ?_
  cases getL m k <;> rfl
theorem RMap.set {w : World} {b : Nat} {m : AL ByteArray} (h : RMap w b m) (k : ByteArray) (hk : okS k) (v : ByteArray) (hv : v ≠ ⟨#[]⟩ ∧ v.size ≤ maxLen) :
    ∃ o, (Instr.mapUpdate 166 (.map (some b)) (.string k) (.string v)).run Tryz.prog w = .ok () (K.setMap w b o) ∧ RMap (K.setMap w b o) b (putL m k v) := by
  obtain ⟨o, h1, h2⟩ := LMap.upd (P := Tryz.prog) h.1 (strEnc Tryz.underlying9) Tryz.underlying166 k hk (Value.string v)
  refine ⟨o, h1, ?_, fun p hp => ?_⟩
  · rw [← putL_map]
    exact h2
  · rcases putL_vals hp with hp | hp
    · exact h.2 p hp
    · rw [hp]; exact hv
theorem RMap.ext {w w' : World} {b : Nat} {m : AL ByteArray} (h : RMap w b m) (e : Ext w w') : RMap w' b m := ⟨h.1.ext e, h.2⟩
theorem RMap.but {w w' : World} {b : Nat} {m : AL ByteArray} (h : RMap w b m) {S : Nat → Prop} (e : ButS S w w') (hs : ¬ S b) : RMap w' b m := ⟨h.1.but e hs, h.2⟩
theorem RMap.len {w : World} {b : Nat} {m : AL ByteArray} (h : RMap w b m) (ty : TypeId) : (Builtin.len_ #[166] ty #[.map (some b)]).run Tryz.prog w = .ok (.int .i64 (m.length : Nat)) w := by
  have := LMap.len (P := Tryz.prog) h.1 Tryz.underlying166 ty
  rwa [List.length_map] at this
theorem renT_len (m : AL ByteArray) (t : Term) : (renT m t).1.length ≤ m.length + 1 := by
  unfold renT
  split
  · split
    · exact Nat.le_succ _
    · exact putL_len _ _ _
  · exact Nat.le_succ _
def TermPost (m : AL ByteArray) (b : Nat) (t : Term) (w : World) (e : Ending) (w' : World) : Prop := e = .returned (.agg #[.int .i64 t.kind, .string (renT m t).2.text]) ∧ RMap w' b (renT m t).1 ∧ ButS (fun x => x = b) w w'
theorem res_term {fn : Func} {t : Tmp} {tmps : Array Value} {w : World} {b : Nat} {k s : Value} (hf : fn.results = #[.cell t 42]) (ht : tmps.getD t undef = .pointer (some ⟨b, 0, none⟩)) (h : Blk w b 42 [k, s]) : (results fn tmps).run Tryz.prog w = .ok (.agg #[k, s]) w := by
  have h0 := h.cell (i := 0) rfl
  have h1 := h.cell (i := 1) rfl
  have ht' : tmps[t]?.getD undef = .pointer (some ⟨b, 0, none⟩) := by rw [← ht]; simp
  simp only [results, hf]
  go_simp
def renTs : AL ByteArray → List Term → AL ByteArray × List Term
  | m, [] => (m, [])
  | m, t :: ts => ((renTs (renT m t).1 ts).1, (renT m t).2 :: (renTs (renT m t).1 ts).2)
theorem renTs_snoc : ∀ (m : AL ByteArray) (ts : List Term) (t : Term), renTs m (ts ++ [t]) = ((renT (renTs m ts).1 t).1, (renTs m ts).2 ++ [(renT (renTs m ts).1 t).2])
  | m, [], t => rfl
  | m, x :: ts, t => by
    show renTs m (x :: (ts ++ [t])) = _
    unfold renTs
    rw [renTs_snoc (renT m x).1 ts t]
    rfl
theorem renTs_len : ∀ (m : AL ByteArray) (ts : List Term), (renTs m ts).2.length = ts.length ∧ (renTs m ts).1.length ≤ m.length + ts.length
  | m, [] => ⟨rfl, Nat.le_refl _⟩
  | m, t :: ts => by
    obtain ⟨h1, h2⟩ := renTs_len (renT m t).1 ts
    have h3 := renT_len m t
    unfold renTs
    simp only [List.length_cons]
    exact ⟨by rw [h1], by omega⟩
theorem renT_text {b : Nat} {m : AL ByteArray} {w' : World} {t : Term} (h' : RMap w' b (renT m t).1) (hk : okS t.text) : (renT m t).2.text.size ≤ maxLen := by
  by_cases hv : varK t.kind = true
  · have hx : ∃ p ∈ (renT m t).1, p.2 = (renT m t).2.text := by
      unfold renT
      rw [if_pos hv]
      cases hg : getL m t.text with
      | some v =>
        obtain ⟨p, h1, h2⟩ := getL_mem hg
        exact ⟨p, h1, h2⟩
      | none =>
        rw [putL_new (getL_none.1 hg)]
        exact ⟨_, List.mem_append_right _ (List.mem_singleton.2 rfl), rfl⟩
    obtain ⟨p, h1, h2⟩ := hx
    rw [← h2]
    exact (h'.2 p h1).2
  · unfold renT
    rw [if_neg hv]
    exact hk
end Go.Proofs.YtlalgaioiapjmaaGreatDoor
