/- Plain law of the search from all nodes: each node's part is told. No code of the program. -/
import Derived.Test.YtlalgaioiapjmaaGreatDoorG15
namespace Go.Proofs.YtlalgaioiapjmaaGreatDoor
open K (WSt WInv mu stepW runW fromW fuelW meetS closeS foundGo foundW adj getD_set filter_drop)
structure FInv (n : Nat) (g : Nat → List Nat) (i : Nat) (s : WSt) : Prop where
  lm : s.met.length = n
  ll : s.low.length = n
  lp : s.part.length = n
  opn : s.opn = []
  way : s.way = []
  unm : ∀ v, v < n → s.met.getD v 0 = 0 → s.part.getD v none = none
  done : ∀ v, v < n → s.met.getD v 0 ≠ 0 → ∃ a, s.part.getD v none = some a ∧ a < s.all
  first : ∀ v, v < i → v < n → s.met.getD v 0 ≠ 0
  mle : ∀ v, s.met.getD v 0 ≤ s.met0
  b1 : s.met0 ≤ i * (fuelW g n + 1)
  b2 : s.all ≤ i * (fuelW g n + 1)
theorem FInv.begin {n : Nat} {g : Nat → List Nat} {i : Nat} {s : WSt} (h : FInv n g i s) {v : Nat} (hv : v < n) (h0 : s.met.getD v 0 = 0) : WInv n g v (s.met0 + 1) { meetS s v with way := [(v, 0)] } ∧ mu g n { meetS s v with way := [(v, 0)] } ≤ fuelW g n := by
  constructor
  · exact {
      lm := by simp [meetS, h.lm]
      ll := by simp [meetS, h.ll]
      lp := h.lp
      way := fun p hp => by rcases List.mem_singleton.1 hp with rfl; exact ⟨hv, Nat.zero_le _⟩
      sub := by simp [meetS, h.opn]
      nd := by simp [meetS, h.opn]
      opn := fun x hx => by
        simp only [meetS, h.opn, List.mem_singleton, getD_set, h.lm, hx, and_true]
        by_cases e : v = x
        · subst e
          have q := h.unm v hv h0
          rw [if_pos rfl]
          exact ⟨fun _ => ⟨by omega, q⟩, fun _ => rfl⟩
        · rw [if_neg e]
          constructor
          · intro q; exact absurd q.symm e
          · rintro ⟨q1, q2⟩
            obtain ⟨a, q3, _⟩ := h.done x hx q1
            rw [q3] at q2
            cases q2
      olt := fun x hx => by
        simp only [meetS, h.opn, List.mem_singleton] at hx
        rw [hx]; exact hv
      unm := fun x hx q => by
        simp only [meetS, getD_set, h.lm, hx, and_true] at q
        split at q
        · omega
        · exact h.unm x hx q
      clo := fun x hx a ha => by
        have ha : s.part.getD x none = some a := ha
        by_cases q : s.met.getD x 0 = 0
        · rw [h.unm x hx q] at ha; cases ha
        · obtain ⟨b, q2, q3⟩ := h.done x hx q
          rw [q2] at ha
          cases ha
          exact q3
      bot := fun _ => by simp [meetS, h.opn]
      high := fun x hx => by
        simp only [meetS, h.opn, List.mem_singleton] at hx
        subst hx
        simp only [meetS, getD_set, h.lm, h.ll, hv, and_self, if_pos]
        omega
      root := fun _ => by
        simp only [meetS, getD_set, h.lm, h.ll, hv, and_self, if_pos]
      low0 := by simp [meetS]
      mle := fun x => by
        have := h.mle x
        simp only [meetS, getD_set]
        split <;> omega
      pos := by omega }
  · unfold mu fuelW
    have := filter_drop (n := n) (t := v) (fun _ => true) (fun x => decide ((s.met.set v (s.met0 + 1)).getD x 0 = 0)) (fun v => (g v).length + 2) hv rfl (fun x hx => by
      simp only [decide_eq_true_eq] at hx
      rw [getD_set] at hx
      refine ⟨rfl, fun e => ?_⟩
      subst e
      rw [if_pos ⟨rfl, by rw [h.lm]; exact hv⟩] at hx
      omega)
    rw [List.filter_eq_self.2 (fun _ _ => rfl)] at this
    simp only [meetS, List.map_cons, List.map_nil, List.sum_cons, List.sum_nil]
    exact Nat.le_trans (Nat.add_le_add (Nat.le_refl _) (by omega)) this
theorem run_stop {g : Nat → List Nat} {s : WSt} (hw : s.way = []) : ∀ f, runW g f s = s
  | 0 => rfl
  | f + 1 => by
    show runW g f (stepW g s) = s
    have e : stepW g s = s := by unfold stepW; rw [hw]
    rw [e]
    exact run_stop hw f
theorem run_end {n : Nat} {g : Nat → List Nat} {start m0 : Nat} (hg : ∀ v, v < n → ∀ t ∈ g v, t < n) : ∀ (f : Nat) (s : WSt), WInv n g start m0 s → mu g n s ≤ f → (runW g f s).way = [] ∧ WInv n g start m0 (runW g f s) ∧ (∀ x, s.met.getD x 0 ≠ 0 → (runW g f s).met.getD x 0 ≠ 0) ∧ (runW g f s).met0 ≤ s.met0 + f ∧ (runW g f s).all ≤ s.all + f
  | 0, s, h, hm => by
    refine ⟨?_, h, fun _ q => q, Nat.le_refl _, Nat.le_refl _⟩
    show s.way = []
    cases hw : s.way with
    | nil => rfl
    | cons p l =>
      unfold mu at hm
      rw [hw] at hm
      simp only [List.map_cons, List.sum_cons] at hm
      omega
  | f + 1, s, h, hm => by
    by_cases hw : s.way = []
    · rw [run_stop hw]
      exact ⟨hw, h, fun _ q => q, Nat.le_add_right _ _, Nat.le_add_right _ _⟩
    · have hc := K.step_counts g s
      have hk := K.step_keeps g s
      have hm2 := K.step_mu h hg hw
      obtain ⟨h1, h2, h3, h4, h5⟩ := run_end hg f (stepW g s) (h.step hg) (by omega)
      exact ⟨h1, h2, fun x q => h3 x (hk x q), by show (runW g f (stepW g s)).met0 ≤ _; omega, by show (runW g f (stepW g s)).all ≤ _; omega⟩
theorem FInv.from {n : Nat} {g : Nat → List Nat} (hg : ∀ v, v < n → ∀ t ∈ g v, t < n) {i : Nat} {s : WSt} (h : FInv n g i s) (hi : i < n) (h0 : s.met.getD i 0 = 0) : FInv n g (i + 1) (fromW g n s i) := by
  obtain ⟨h1, h2⟩ := h.begin hi h0
  obtain ⟨q1, q2, q3, q4, q5⟩ := run_end hg (fuelW g n) _ h1 h2
  have hopn : (fromW g n s i).opn = [] := q2.done q1
  have q4 : (fromW g n s i).met0 ≤ s.met0 + 1 + fuelW g n := q4
  have q5 : (fromW g n s i).all ≤ s.all + fuelW g n := q5
  have b1 := h.b1
  have b2 := h.b2
  refine ⟨q2.lm, q2.ll, q2.lp, hopn, q1, q2.unm, fun v hv hm => ?_, fun v hv hvn => ?_, q2.mle, ?_, ?_⟩
  · cases hp : (fromW g n s i).part.getD v none with
    | none =>
      have q7 : v ∈ (fromW g n s i).opn := (q2.opn v hv).2 ⟨hm, hp⟩
      rw [hopn] at q7
      cases q7
    | some a => exact ⟨a, rfl, q2.clo v hv a hp⟩
  · refine q3 v ?_
    simp only [meetS, getD_set, h.lm, hvn, and_true]
    split
    · omega
    · rename_i hne
      exact h.first v (by omega) hvn
  · rw [Nat.succ_mul]; omega
  · rw [Nat.succ_mul]; omega
theorem FInv.skip {n : Nat} {g : Nat → List Nat} {i : Nat} {s : WSt} (h : FInv n g i s) (h0 : s.met.getD i 0 ≠ 0) : FInv n g (i + 1) s := by
  refine ⟨h.lm, h.ll, h.lp, h.opn, h.way, h.unm, h.done, fun v hv hvn => ?_, h.mle, ?_, ?_⟩
  · by_cases e : v = i
    · subst e; exact h0
    · exact h.first v (by omega) hvn
  · have := h.b1; rw [Nat.succ_mul]; omega
  · have := h.b2; rw [Nat.succ_mul]; omega
def nil0 (n : Nat) : WSt := ⟨List.replicate n 0, List.replicate n 0, List.replicate n none, [], 0, 0, []⟩
theorem getD_rep {α : Type} (n i : Nat) (x : α) : (List.replicate n x).getD i x = x := by
  rw [List.getD_eq_getElem?_getD, List.getElem?_replicate]
  split <;> rfl
theorem FInv.zero (n : Nat) (g : Nat → List Nat) : FInv n g 0 (nil0 n) :=
  ⟨by simp [nil0], by simp [nil0], by simp [nil0], rfl, rfl, fun v _ _ => getD_rep n v none, fun v _ h => absurd (getD_rep n v 0) h, fun v h => absurd h (Nat.not_lt_zero _), fun v => by show (List.replicate n 0).getD v 0 ≤ 0; rw [getD_rep]; exact Nat.le_refl _, Nat.zero_le _, Nat.zero_le _⟩
theorem sum_add : ∀ (l : List Nat) (f h : Nat → Nat), (l.map fun v => f v + h v).sum = (l.map f).sum + (l.map h).sum
  | [], _, _ => rfl
  | a :: l, f, h => by
    have := sum_add l f h
    simp only [List.map_cons, List.sum_cons]
    omega
theorem sum_one (z : Int) : ∀ n, ((List.range n).map fun (v : Nat) => if z = Int.ofNat v then 1 else 0).sum ≤ (if 0 ≤ z ∧ z < (n : Int) then 1 else 0)
  | 0 => by simp
  | n + 1 => by
    have := sum_one z n
    rw [List.range_succ, List.map_append, List.sum_append]
    simp only [List.map_cons, List.map_nil, List.sum_cons, List.sum_nil, Int.ofNat_eq_natCast] at this ⊢
    split at this <;> split <;> split <;> omega
theorem adj_sum : ∀ (es : List K.Edge) (n : Nat), ((List.range n).map fun v => (adj es v).length).sum ≤ es.length
  | [], n => by
    have : (List.range n).map (fun v => (adj ([] : List K.Edge) v).length) = (List.range n).map fun _ => 0 := by
      apply List.map_congr_left
      intro v _
      rfl
    rw [this]
    induction n with
    | zero => simp
    | succ n ih =>
      rw [List.range_succ, List.map_append, List.sum_append]
      have h2 := ih (by apply List.map_congr_left; intro v _; rfl)
      simpa using h2
  | e :: es, n => by
    have h1 := adj_sum es n
    have h2 := sum_one e.src n
    have h3 : (List.range n).map (fun v => (adj (e :: es) v).length) = (List.range n).map fun (v : Nat) => (if e.src = Int.ofNat v then 1 else 0) + (adj es v).length := by
      apply List.map_congr_left
      intro v _
      unfold K.adj
      rw [List.filter_cons]
      by_cases h : e.src = (v : Int)
      · rw [if_pos (by simpa using h), if_pos (show e.src = Int.ofNat v from h), List.map_cons, List.length_cons]; omega
      · rw [if_neg (by simpa using h), if_neg (show ¬ e.src = Int.ofNat v from h)]; omega
    rw [h3, sum_add, List.length_cons]
    split at h2 <;> omega
theorem fuel_le (es : List K.Edge) (n : Nat) : fuelW (adj es) n ≤ es.length + n * 2 := by
  unfold fuelW
  rw [sum_add (List.range n) (fun v => (adj es v).length) (fun _ => 2)]
  have h1 := adj_sum es n
  have h2 : ((List.range n).map fun _ => 2).sum = n * 2 := by
    clear h1
    induction n with
    | zero => rfl
    | succ n ih => rw [List.range_succ, List.map_append, List.sum_append, ih]; simp; omega
  omega
end Go.Proofs.YtlalgaioiapjmaaGreatDoor
