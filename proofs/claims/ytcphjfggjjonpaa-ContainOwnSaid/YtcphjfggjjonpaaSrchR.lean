/- The plain law: the program's search, with its own stack, comes to what the document's recursive search comes to. No conditions. -/
import Derived.Test.YtcphjfggjjonpaaFound
namespace Go.Proofs.Ytcphjfggjjonpaa
inductive RRes where
  | many
  | found (l : List Nat)
  | none (lk : Nat)
def scanR (go : TMap → List Nat → Nat → RRes) (m : TMap) (a : Atom) (at_ : List Nat) : List Lit → Nat → Nat → RRes
  | [], _, lk => .none lk
  | l :: rest, k, lk =>
    if 65536 < lk + 1 then .many else
    match lay m a l.atom k with
    | Option.none => scanR go m a at_ rest (k + 1) (lk + 1)
    | some (m', _) =>
      match go m' (at_ ++ [k]) (lk + 1) with
      | .many => .many
      | .found l => .found l
      | .none lk' => scanR go m a at_ rest (k + 1) lk'
def srchR (rb : List Lit) : List Lit → TMap → List Nat → Nat → RRes
  | [], _, at_, _ => .found at_
  | a :: rest, m, at_, lk => scanR (srchR rb rest) m a.atom at_ rb 0 lk
/-- scanR goes as scan to the first that fits. -/
theorem scanR_scan (go : TMap → List Nat → Nat → RRes) (m : TMap) (a : Atom) (at_ : List Nat) (rb ls : List Lit) (k lk : Nat) (hd : ls = rb.drop k) :
    scanR go m a at_ ls k lk = match scan m a ls k lk with
      | .many => .many
      | .none lk' => .none lk'
      | .found k' m' _ lk' => match go m' (at_ ++ [k']) lk' with
        | .many => .many
        | .found l => .found l
        | .none lk2 => scanR go m a at_ (rb.drop (k' + 1)) (k' + 1) lk2 := by
  induction ls generalizing k lk with
  | nil => simp [scanR, scan]
  | cons l rest ih =>
    rw [scanR, scan]
    have hr : rest = rb.drop (k + 1) := by
      rw [← List.tail_drop, ← hd]; rfl
    by_cases h : 65536 < lk + 1
    · rw [if_pos h, if_pos h]
    · rw [if_neg h, if_neg h]
      cases hl : lay m a l.atom k with
      | none =>
        simp only
        exact ih (k + 1) (lk + 1) hr
      | some p =>
        obtain ⟨m', fr⟩ := p
        simp only
        rw [hr]
theorem scan_looks (m : TMap) (a : Atom) (ls : List Lit) (k lk : Nat) : (∀ k' m' fr lk', scan m a ls k lk = .found k' m' fr lk' → lk + 1 ≤ lk' ∧ lk' ≤ 65536 ∧ k ≤ k' ∧ k' < k + ls.length) ∧ ∀ lk', scan m a ls k lk = .none lk' → lk ≤ lk' ∧ (lk ≤ 65536 → lk' ≤ 65536) := by
  induction ls generalizing k lk with
  | nil =>
    refine ⟨fun k' m' fr lk' h => by simp [scan] at h, fun lk' h => ?_⟩
    simp [scan] at h
    omega
  | cons l rest ih =>
    rw [scan]
    by_cases h : 65536 < lk + 1
    · rw [if_pos h]
      exact ⟨fun _ _ _ _ h => by (cases h), fun _ h => by cases h⟩
    · rw [if_neg h]
      cases hl : lay m a l.atom k with
      | none =>
        simp only
        obtain ⟨i1, i2⟩ := ih (k + 1) (lk + 1)
        refine ⟨fun k' m' fr lk' hh => ?_, fun lk' hh => ?_⟩
        · have := i1 k' m' fr lk' hh
          simp
          omega
        · have := i2 lk' hh
          omega
      | some p =>
        obtain ⟨m', fr⟩ := p
        simp only
        refine ⟨fun k' m2 fr2 lk' hh => ?_, fun lk' hh => by cases hh⟩
        cases hh
        simp
        omega
/-- What is left to do at most. -/
def pot (st : SSt) : Nat := (65537 - st.looks) * 2 + st.at_.length
theorem srch_fuel (rb sb : List Lit) (f : Nat) : ∀ (g : Nat) (st : SSt), pot st + 1 ≤ f → pot st + 1 ≤ g → srch rb sb f st = srch rb sb g st := by
  induction f with
  | zero => intro g st h; omega
  | succ f ih =>
    intro g st h1 h2
    obtain ⟨g, rfl⟩ : ∃ g', g = g' + 1 := ⟨g - 1, by omega⟩
    rw [srch, srch]
    cases ha : sb[st.at_.length]? with
    | none => rfl
    | some l =>
      simp only
      cases hs : scan st.m l.atom (rb.drop st.from_) st.from_ st.looks with
      | many => rfl
      | found k m' fr lk =>
        simp only
        obtain ⟨q1, q2, _⟩ := (scan_looks _ _ _ _ _).1 _ _ _ _ hs
        have hp : pot ⟨m', st.at_ ++ [k], st.frs ++ [fr], lk, 0⟩ + 1 ≤ pot st := by
          unfold pot
          simp
          omega
        exact ih g _ (by omega) (by omega)
      | none lk =>
        simp only
        have q := (scan_looks _ _ _ _ _).2 _ hs
        cases hg : st.at_.getLast? with
        | none => rfl
        | some k =>
          simp only
          have hne : st.at_ ≠ [] := fun e => by rw [e] at hg; cases hg
          have hlen : 0 < st.at_.length := List.length_pos_iff.2 hne
          have hp : pot ⟨withoutT st.m (st.frs.getLast?.getD []), st.at_.dropLast, st.frs.dropLast, lk, k + 1⟩ + 1 ≤ pot st := by
            unfold pot
            simp
            omega
          exact ih g _ (by omega) (by omega)
def srchF (rb sb : List Lit) (st : SSt) : SRes := srch rb sb (pot st + 1) st
theorem srchF_eq (rb sb : List Lit) {f : Nat} {st : SSt} (h : pot st + 1 ≤ f) : srch rb sb f st = srchF rb sb st := srch_fuel rb sb f _ st h (Nat.le_refl _)
/-- What the search goes on with behind a recursive answer. -/
def contin (rb sb : List Lit) (m : TMap) (at_ : List Nat) (frs : List (List ByteArray)) : RRes → SRes
  | .many => .many
  | .found l => .yes l
  | .none lk =>
    match at_.getLast? with
    | Option.none => .no
    | some k => srchF rb sb ⟨withoutT m (frs.getLast?.getD []), at_.dropLast, frs.dropLast, lk, k + 1⟩
theorem srchF_step (rb sb : List Lit) (st : SSt) {l : Lit} (hl : sb[st.at_.length]? = some l) :
    srchF rb sb st = match scan st.m l.atom (rb.drop st.from_) st.from_ st.looks with
      | .many => .many
      | .found k m' fr lk => srchF rb sb ⟨m', st.at_ ++ [k], st.frs ++ [fr], lk, 0⟩
      | .none lk => contin rb sb st.m st.at_ st.frs (.none lk) := by
  unfold srchF
  rw [srch, hl]
  simp only
  cases hs : scan st.m l.atom (rb.drop st.from_) st.from_ st.looks with
  | many => rfl
  | found k m' fr lk =>
    simp only
    obtain ⟨q1, q2, _⟩ := (scan_looks _ _ _ _ _).1 _ _ _ _ hs
    exact srchF_eq rb sb (by unfold pot; simp; omega)
  | none lk =>
    simp only [contin]
    have q := (scan_looks _ _ _ _ _).2 _ hs
    cases hg : st.at_.getLast? with
    | none => rfl
    | some k =>
      simp only
      have hne : st.at_ ≠ [] := fun e => by rw [e] at hg; cases hg
      have hlen : 0 < st.at_.length := List.length_pos_iff.2 hne
      exact srchF_eq rb sb (by unfold pot; simp; omega)
theorem srchF_yes (rb sb : List Lit) (st : SSt) (hl : sb[st.at_.length]? = none) : srchF rb sb st = .yes st.at_ := by
  unfold srchF
  rw [srch, hl]
theorem srch_rec (rb sb : List Lit) (m0 : TMap) (rest : List Lit) : ∀ (a : Lit) (n : Nat) (m : TMap) (at_ : List Nat) (frs : List (List ByteArray)) (lk fm : Nat), rb.length - fm ≤ n → Path rb sb m0 at_ frs m → sb.drop at_.length = a :: rest →
    srchF rb sb ⟨m, at_, frs, lk, fm⟩ = contin rb sb m at_ frs (scanR (srchR rb rest) m a.atom at_ (rb.drop fm) fm lk) := by
  induction rest with
  | nil =>
    intro a n m at_ frs lk fm hn hp hd
    have hl : sb[at_.length]? = some a := by
      have e : (sb.drop at_.length)[0]? = some a := by rw [hd]; rfl
      rw [List.getElem?_drop] at e
      simpa using e
    have hl2 : sb[at_.length + 1]? = none := by
      have e : (sb.drop at_.length)[1]? = none := by rw [hd]; rfl
      rwa [List.getElem?_drop] at e
    rw [srchF_step rb sb _ hl, scanR_scan _ _ _ _ rb _ _ _ rfl]
    cases hs : scan m a.atom (rb.drop fm) fm lk with
    | many => rfl
    | none lk' => rfl
    | found k m' fr lk' =>
      simp only [srchR, contin]
      unfold srchF
      rw [srch]
      simp [hl2]
  | cons a2 rest ih =>
    intro a n
    induction n with
    | zero =>
      intro m at_ frs lk fm hn hp hd
      have hl : sb[at_.length]? = some a := by
        have e : (sb.drop at_.length)[0]? = some a := by rw [hd]; rfl
        rw [List.getElem?_drop] at e
        simpa using e
      have he : rb.drop fm = [] := List.drop_of_length_le (by omega)
      rw [srchF_step rb sb _ hl]
      simp only [he]
      rfl
    | succ n ihn =>
      intro m at_ frs lk fm hn hp hd
      have hl : sb[at_.length]? = some a := by
        have e : (sb.drop at_.length)[0]? = some a := by rw [hd]; rfl
        rw [List.getElem?_drop] at e
        simpa using e
      rw [srchF_step rb sb _ hl, scanR_scan _ _ _ _ rb _ _ _ rfl]
      cases hs : scan m a.atom (rb.drop fm) fm lk with
      | many => rfl
      | none lk' => rfl
      | found k m' fr lk' =>
        simp only
        obtain ⟨l', h1, h2⟩ := scan_found _ _ rb _ _ _ _ _ _ _ rfl hs
        obtain ⟨_, _, q3, q4⟩ := (scan_looks _ _ _ _ _).1 _ _ _ _ hs
        have hp' := hp.snoc hl h1 h2
        have hd' : sb.drop (at_ ++ [k]).length = a2 :: rest := by
          rw [List.length_append, List.length_singleton, ← List.tail_drop, hd]
          rfl
        rw [ih a2 rb.length m' (at_ ++ [k]) (frs ++ [fr]) lk' 0 (by omega) hp' hd', List.drop_zero]
        show contin rb sb m' (at_ ++ [k]) (frs ++ [fr]) (srchR rb (a2 :: rest) m' (at_ ++ [k]) lk') = _
        cases hr : srchR rb (a2 :: rest) m' (at_ ++ [k]) lk' with
        | many => rfl
        | found l => rfl
        | none lk2 =>
          simp only [contin, List.getLast?_concat, List.dropLast_concat, Option.getD_some]
          rw [lay_undo h2]
          exact ihn m at_ frs lk2 (k + 1) (by rw [List.length_drop] at q4; omega) hp hd
theorem pot_le (st : SSt) : pot st ≤ 65537 * 2 + st.at_.length := by
  unfold pot
  omega
theorem pot_start (m : TMap) (n : Nat) : pot ⟨m, [], [], 0, 0⟩ + 1 ≤ 65537 * (n + 2) + 1 := by
  have h : pot ⟨m, [], [], 0, 0⟩ ≤ 65537 * 2 + List.length ([] : List Nat) := pot_le _
  rw [List.length_nil] at h
  omega
/-- The program's search from the start is the document's. -/
theorem srch_law (rb sb : List Lit) (m : TMap) : srch rb sb (65537 * (sb.length + 2) + 1) ⟨m, [], [], 0, 0⟩ = match srchR rb sb m [] 0 with
    | .many => .many
    | .found l => .yes l
    | .none _ => .no := by
  have hp : pot ⟨m, [], [], 0, 0⟩ + 1 ≤ 65537 * (sb.length + 2) + 1 := pot_start m sb.length
  rw [srchF_eq rb sb hp]
  clear hp
  cases sb with
  | nil => exact srchF_yes rb [] ⟨m, [], [], 0, 0⟩ rfl
  | cons a rest =>
    rw [srch_rec rb (a :: rest) m rest a rb.length m [] [] 0 0 (by omega) .nil rfl, List.drop_zero]
    show contin rb (a :: rest) m [] [] (srchR rb (a :: rest) m [] 0) = _
    cases srchR rb (a :: rest) m [] 0 <;> rfl
end Go.Proofs.Ytcphjfggjjonpaa
