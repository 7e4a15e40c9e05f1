/- The walks of strata.reach and Below. The walks of lint.bodies and lint.others: the looks, and what they hold. -/
import Derived.Test.YtlalgaioiapjmaaGreatDoorG28
import Derived.Test.YtlalgaioiapjmaaGreatDoorG36
import Derived.Test.YtlalgaioiapjmaaGreatDoorG39
namespace Go.Proofs.YtlalgaioiapjmaaGreatDoor
open Go.ChangeShapes Go.WideShapes Go.ChangeAt Go.RowKit
open K (AL Rule checkP)
theorem rchL_len (es : List K.Edge) (n v : Nat) : (rchL es n v).length ≤ n := by
  unfold rchL
  exact Nat.le_trans (List.length_filter_le _ _) (by simp)
/-- The predicates below one. -/
noncomputable def belowL (rs : List Rule) (p : ByteArray) : List ByteArray := if p ∈ namesQ rs then (rchL (edgesQ rs) (namesQ rs).length ((namesQ rs).idxOf p)).map fun i => (namesQ rs).getD i ⟨#[]⟩ else []
/-- One text more, in a region that draws nothing. -/
theorem wpList_push_str {ops : Array Oper} {rest : List Oper} {o : Oper} {a : Act} {Q : Exit → Act → World → Prop} (W0 : World) (z : ByteArray) (base : Nat) (fa : Option Addr) (n fc : Nat) (l : List Value) (hown : W0.ownsRow base 9 1 (.slice fa n fc) n l) (hn : n ≤ 2000000) (hbase : base ≤ W0.heap.size) (hgd : o.guard = none) (s x : Operand)
    (ho : o.op = .call { callee := .builtin .append, args := #[s, x], argTypes := #[25, 25] }) (hs : a.eval s = .slice fa n fc) (hx : a.eval x = .slice (some ⟨W0.heap.size, 0, none⟩) 1 1)
    (h : ∀ g cap w', w'.ownsRow base 9 1 (.slice (some ⟨g, 0, none⟩) (n + 1) cap) (n + 1) (l ++ [.string z]) → (W0.alloc (.cells #[.string z] 9)).grownBy w' (Value.slice fa n fc).ownBlock → ((Value.slice fa n fc).ownBlock = some g ∨ W0.heap.size ≤ g) → wpList Tryz.prog ops Q rest (a.put o.dst (.slice (some ⟨g, 0, none⟩) (n + 1) cap)) w') :
    wpList Tryz.prog ops Q (o :: rest) a (W0.alloc (.cells #[.string z] 9)) := by
  obtain ⟨n0, hn0, nz0, nz1, nz2⟩ := info_parts K.info_string
  exact wpList_append_one _ hgd s x 25 ho base 9 n0 (.string ⟨#[]⟩) 1 16 Tryz.underlying25 hn0 nz0 nz1 nz2 rfl (by decide) _ n _ l hs (hown.alloc _) ⟨W0.heap.size, 0, none⟩ 1 [.string z] hx rfl (news1 W0 _ _) (by simp [Value.oneCell']) (by unfold maxLen; omega) (by omega) (by simp; omega) fun g cap w1 hown1 hgrow hat _ => h g cap w1 hown1 hgrow (hat.imp id fun e => by rw [e]; simp)
/-- Whatever the error is: the list. -/
def BelPost (rs : List Rule) (p : ByteArray) (w : World) (e : Ending) (w' : World) : Prop := ∃ v er, e = .returned (.tuple #[v, .int .i64 er]) ∧ w'.ownsRow w.heap.size 9 1 v (belowL rs p).length ((belowL rs p).map Value.string) ∧ Ext w w'
set_option maxRecDepth 100000 in
set_option maxHeartbeats 4000000 in
theorem c_reachS (rs : List Rule) (p : ByteArray) (a : Option Addr) (n cap : Nat) (w : World) (h : RulesAt w a n rs) (h0 : checkP rs = 0) (hp : okS p) :
    Calls Tryz.prog 77 #[.agg #[.slice a n cap], .string p, .bool false] w (BelPost rs p w) := by
  have CW : Hid (∀ W, Ext w W → Calls Tryz.prog 26 #[.agg #[.slice a n cap]] W (WeavePost rs W)) := fun W e => c_weave rs a n cap W (h.keep e) h0
  obtain ⟨ns, hns⟩ : ∃ ns, namesQ rs = ns := ⟨_, rfl⟩
  have hnf : ns.length ≤ 512 := by rw [← hns, namesQ_len]; exact names_few h0
  have RC : Hid (∀ W ae ne ce v fb, EdgesAt W ae ne (edgesQ rs) → v < ns.length → W.cell? ⟨fb, 0, none⟩ = some (.int .i64 (v : Int)) → Calls Tryz.prog 108 #[.int .i64 (ns.length : Int), .slice (some ⟨fb, 0, none⟩) 1 1, .slice ae ne ce] W (ReachPost (edgesQ rs) ns.length v W)) := fun W ae ne ce v fb he hv hf => by
    rw [← hns] at hnf hv ⊢
    exact c_reach (edgesQ rs) ae ne ce (namesQ rs).length v fb W he (by omega) (edgesOk rs h0) hv hf
  have BL : Hid (belowL rs p = if p ∈ ns then (rchL (edgesQ rs) ns.length (ns.idxOf p)).map fun i => ns.getD i ⟨#[]⟩ else []) := by
    show _ = _
    unfold belowL
    rw [hns]
  have HNS := Lib.hid hns
  clear h h0 hns
  go_enter Tryz.func77, Tryz.ntmps77
  go_upto_region 1 with (fail)
  refine wp_gen (fun W hW => ?_)
  have E0 : Ext w W := by rw [hW]; exact ext_alloc (Below.refl _ _) _
  have d0 : W.cell? ⟨w.heap.size, 0, none⟩ = some (.slice a n cap) := by rw [hW]; go_simp
  have CWW := Lib.hid (CW.out W E0)
  have HE := Lib.hid E0
  clear hW CW E0
  go_upto_region 4 with (go_at_call 26; (with_reducible refine CWW.out.mono ?_); rintro e w2 ⟨wb, rfl, hwb, E2⟩; have HWB := Lib.hid hwb; clear hwb)
  obtain ⟨an, nn, cn, mi, ae, ne, ce, N', hB, hS, hM, hP, hG⟩ := HWB.out.ex
  rw [HNS.out] at hS hP
  have hnl : ns.length = nn := hS.2.1
  have q0 := hB.cell (i := 0) rfl
  have q1 := hB.cell (i := 1) rfl
  have q2 := hB.cell (i := 2) rfl
  have lk := (show AMap w2 mi N' from hM).get Tryz.underlying79 p hp true
  rw [hP] at lk
  have HG := Lib.hid hG
  have HS := Lib.hid hS
  have HE2 : Hid (Ext w w2) := ext_trans HE.out E2
  clear hB hS hM hP hG CWW HE E2 d0 HWB
  by_cases hm : p ∈ ns
  · rw [posM, if_pos hm] at lk
    obtain ⟨ix, hix⟩ : ∃ ix, ns.idxOf p = ix := ⟨_, rfl⟩
    rw [hix] at lk
    have lk : (Instr.lookup 79 (.map (some mi)) (.string p) true).run Tryz.prog w2 = .ok (.tuple #[.int .i64 (ix : Nat), .bool true]) w2 := lk
    have hixl : ix < ns.length := by rw [← hix]; exact List.idxOf_lt_length_of_mem hm
    obtain ⟨L, hL⟩ : ∃ L, rchL (edgesQ rs) ns.length ix = L := ⟨_, rfl⟩
    have BL2 : Hid (belowL rs p = L.map fun i => ns.getD i ⟨#[]⟩) := by
      show _ = _
      rw [BL.out, if_pos hm, hix, hL]
    have LT : Hid (∀ i ∈ L, i < nn) := fun i hi => by
      rw [← hL] at hi
      have := (List.mem_filter.1 hi).1
      rw [List.mem_range] at this
      omega
    have hLn : Hid (L.length ≤ nn) := by
      show _ ≤ _
      rw [← hL, ← hnl]
      exact rchL_len _ _ _
    have RQ : Hid (Calls Tryz.prog 108 #[.int .i64 (nn : Int), .slice (some ⟨w2.heap.size, 0, none⟩) 1 1, .slice ae ne ce] (w2.alloc (.cells #[.int .i64 (ix : Nat)] 3)).drew (ReachPost (edgesQ rs) ns.length ix (w2.alloc (.cells #[.int .i64 (ix : Nat)] 3)).drew)) := by
      show Calls _ _ _ _ _
      rw [← hnl]
      exact RC.out _ ae ne ce ix _ (HG.out.keep (ext_drew (ext_alloc (Below.refl _ _) _))) hixl ((Blk.new w2 [.int .i64 (ix : Nat)] 3).cell (i := 0) rfl)
    clear RC hm hix BL
    rw [hnl] at hL RQ
    unfold ReachPost at RQ
    rw [hL] at RQ
    have HNL := Lib.hid hnl
    clear hnl
    go_upto_region 13 with (fail)
    have q0d : w2.drew.cell? ⟨wb, 0, none⟩ = some (.slice an nn cn) := q0
    have q2d : w2.drew.cell? ⟨wb, 2, none⟩ = some (.slice ae ne ce) := q2
    have EA := fun o => ext_drew (ext_alloc (Below.refl _ w2) o)
    have q0o := fun o => keep (EA o) q0
    have q2o := fun o => keep (EA o) q2
    have q0a := fun o => keep (ext_alloc (Below.refl _ w2) o) q0
    have q2a := fun o => keep (ext_alloc (Below.refl _ w2) o) q2
    have mixed : Tryz.prog.follows .mixedOrders = true := by kernel_rfl
    clear lk q1
    go_region_held3 (fun w' => w'.cell? ⟨wb, 0, none⟩ = some (.slice an nn cn) ∧ w'.cell? ⟨wb, 2, none⟩ = some (.slice ae ne ce)) (first | (with_reducible exact And.intro q0d q2d) | (with_reducible exact And.intro (q0o _) (q2o _)) | (with_reducible exact And.intro k0 k2) | fail) (first | (go_at_call 108; (with_reducible refine RQ.out.mono ?_); rintro e w3 ⟨ra, rc, rfl, hI, E3⟩; have k0 := keep E3 (q0o _); have k2 := keep E3 (q2o _)) | fail)
    have HI := Lib.hid hI
    have E23 : Hid (Ext w2 w3) := ext_trans (ext_drew (ext_alloc (Below.refl _ _) _)) E3
    have HS3 := Lib.hid (HS.out.keep E23.out)
    clear hI E3 k2 q0 q2 q0o q2o q0a q2a EA RQ HG HS hL
    go_wp2
    go_loopw [16, 85] (fun ov iv wr => ∃ i : Nat, i ≤ L.length ∧ iv = .int .i64 (i : Int) ∧ ∃ oa oc, ov = .slice oa i oc ∧ wr.ownsRow w3.heap.size 9 1 (.slice oa i oc) i (((L.take i).map fun k => ns.getD k ⟨#[]⟩).map Value.string) ∧ Ext w3 wr) (fun _ iv _ => L.length - (intOf iv).toNat)
    case atStart => exact ⟨0, Nat.zero_le _, rfl, none, 0, rfl, World.ownsRow_nil _ _ _ _, Below.refl _ _⟩
    case round =>
      obtain ⟨i, hi, rfl, oa, oc, rfl, own, hE⟩ := hrel
      have OW := Lib.hid own
      have HEW := Lib.hid hE
      by_cases hlt : i < L.length
      · have hii : (i : Int) < (L.length : Int) := by omega
        obtain ⟨z, eb, eo, hz, hra, hc⟩ := (HI.out.keep hE).2.at hlt
        rw [List.getElem?_map] at hz
        obtain ⟨t, ht, rfl⟩ := Option.map_eq_some_iff.1 hz
        subst hra
        have hc : wr.cell? ⟨eb, eo + i, none⟩ = some (.int .i64 (t : Int)) := by simpa [intAt] using hc
        have htn : t < nn := LT.out t (List.mem_of_getElem? ht)
        have hti : (t : Int) < (nn : Int) := by omega
        obtain ⟨x, sb, so, hx, han, hsc⟩ := (HS3.out.keep hE).at htn
        subst han
        have k0r := keep hE k0
        have hl2 : i ≤ 2000000 := by have := hLn.out; have := HNL.out; omega
        have hbs : w3.heap.size ≤ wr.heap.size := hE.size
        have TK : Hid ((((L.take i).map fun k => ns.getD k ⟨#[]⟩).map Value.string) ++ [.string x] = (((L.take (i + 1)).map fun k => ns.getD k ⟨#[]⟩).map Value.string)) := by
          show _ = _
          rw [take_at ht, List.map_append, List.map_append]
          simp [List.getD_eq_getElem?_getD, hx]
        clear own hE hz ht hx
        go_wp2_with (at_builtin; refine wpList_push_str wr x w3.heap.size oa i oc _ OW.out hl2 hbs rfl _ _ rfl rfl rfl ?_; intro g6 c6 w6 p1 p2 p3; rw [TK.out] at p1; have P6 := Lib.hid p1; have E6 : Hid (Ext w3 w6) := ext_ownB (ext_alloc HEW.out _) p2 (fun b hb => (OW.out.lt b hb).1); clear p1 p2 p3)
        go_roundw
        case rel => exact ⟨i + 1, by omega, by go_num, _, _, rfl, P6.out, E6.out⟩
        case measure => simp [intOf]; omega
      · obtain ⟨LN, hLN⟩ : ∃ LN, L.length = LN := ⟨_, rfl⟩
        obtain rfl : i = LN := by omega
        have hii : ¬ (i : Int) < (L.length : Int) := by omega
        have e1 : L.take i = L := List.take_of_length_le (by omega)
        have FIN : Hid (BelPost rs p w (.returned (.tuple #[.slice oa i oc, .int .i64 0])) wr) := by
          refine ⟨_, _, rfl, ?_, ext_trans HE2.out (ext_trans E23.out HEW.out)⟩
          have o9 := OW.out
          rw [e1, ← BL2.out] at o9
          have e2 : (belowL rs p).length = i := by rw [BL2.out, List.length_map, hLN]
          rw [e2]
          exact own_base o9 (ext_trans HE2.out E23.out).size
        clear own hE e1
        go_wp2
        go_returns
        exact FIN.out
  · rw [posM, if_neg hm] at lk
    have lk : (Instr.lookup 79 (.map (some mi)) (.string p) true).run Tryz.prog w2 = .ok (.tuple #[.int .i64 0, .bool false]) w2 := lk
    have BL2 : Hid (belowL rs p = []) := by
      show _ = _
      rw [BL.out, if_neg hm]
    clear hm BL
    go_wp2
    go_returns
    exact ⟨_, _, rfl, by rw [BL2.out]; exact World.ownsRow_nil _ _ _ _, HE2.out⟩
theorem c_below (rs : List Rule) (p : ByteArray) (a : Option Addr) (n cap : Nat) (w : World) (h : RulesAt w a n rs) (h0 : checkP rs = 0) (hp : okS p) :
    Calls Tryz.prog 45 #[.agg #[.slice a n cap], .string p] w (BelPost rs p w) := by
  have CR : Hid (∀ o, Calls Tryz.prog 77 #[.agg #[.slice a n cap], .string p, .bool false] (w.alloc o) (BelPost rs p (w.alloc o))) := fun o => c_reachS rs p a n cap _ (h.keep (ext_alloc (Below.refl _ _) o)) h0 hp
  go_enter Tryz.func45, Tryz.ntmps45
  go_wp2_with (go_at_call 77; (with_reducible refine (CR.out _).mono ?_); rintro e w2 ⟨v, er, rfl, hown, hE⟩)
  go_returns
  exact ⟨v, er, rfl, own_base hown (by simp), ext_after hE (ext_alloc (Below.refl _ _) _)⟩
end Go.Proofs.YtlalgaioiapjmaaGreatDoor
namespace Go.Proofs.YtlalgaioiapjmaaGreatDoor
open Go.ChangeShapes Go.WideShapes Go.ChangeAt Go.RowKit
open K (Rule SMap stm MapSt setMap)
def bodiesV : List Value := [.int .i64 1, .func (.func 29) #[] #[], .int .i64 2, .func (.func 33) #[] #[], .int .i64 3, .func (.func 36) #[] #[], .int .i64 4, .func (.func 40) #[] #[], .int .i64 7, .func (.func 41) #[] #[]]
theorem c_bodies (w : World) : Calls Tryz.prog 16 #[] w fun e w' => e = .returned (.slice (some ⟨w.heap.size, 0, none⟩) 5 5) ∧ Blk w' w.heap.size 62 bodiesV ∧ Ext w w' := by
  go_enter Tryz.func16, Tryz.ntmps16
  go_wp2
  go_returns
  exact ⟨rfl, Blk.new w bodiesV 62, ext_alloc (Below.refl _ _) _⟩
/-- What is asked for. -/
noncomputable def askedV (rs : List Rule) (wanted : List ByteArray) : List ByteArray := wanted.flatMap fun p => p :: belowL rs p
def othersV (pb vb kb qb : Nat) : List Value := [.int .i64 5, .func (.func 46) #[] #[.pointer (some ⟨pb, 0, none⟩)], .int .i64 6, .func (.func 50) #[] #[.pointer (some ⟨pb, 0, none⟩)], .int .i64 8, .func (.func 51) #[] #[.pointer (some ⟨kb, 0, none⟩)], .int .i64 9, .func (.func 53) #[] #[.pointer (some ⟨vb, 0, none⟩), .pointer (some ⟨qb, 0, none⟩)]]
structure OtherV (rs : List Rule) (given wanted : List ByteArray) (a : Option Addr) (n c : Nat) (wa : Option Addr) (wn wc : Nat) (pb vb kb qb km qm : Nat) (W : World) : Prop where
  p : W.cell? ⟨pb, 0, none⟩ = some (.slice a n c)
  v : W.cell? ⟨vb, 0, none⟩ = some (.slice wa wn wc)
  k : W.cell? ⟨kb, 0, none⟩ = some (.map (some km))
  q : W.cell? ⟨qb, 0, none⟩ = some (.map (some qm))
  can : SMap W km (stm (liveV rs given))
  ask : SMap W qm (stm (askedV rs wanted))
theorem OtherV.up {rs : List Rule} {given wanted : List ByteArray} {a : Option Addr} {n c : Nat} {wa : Option Addr} {wn wc pb vb kb qb km qm : Nat} {W W' : World} (h : OtherV rs given wanted a n c wa wn wc pb vb kb qb km qm W) (e : Ext W W') : OtherV rs given wanted a n c wa wn wc pb vb kb qb km qm W' :=
  ⟨keep e h.p, keep e h.v, keep e h.k, keep e h.q, h.can.ext e, h.ask.ext e⟩
theorem smap_no_cell {w : World} {b : Nat} {f : ByteArray → Option Value} (h : SMap w b f) {x o : Nat} {v : Value} (hc : w.cell? ⟨x, o, none⟩ = some v) : x ≠ b := by
  rintro rfl
  obtain ⟨es, cl, hm, _⟩ := h
  simp [World.cell?, hm] at hc
theorem below_few (rs : List Rule) (h0 : K.checkP rs = 0) (p : ByteArray) : (belowL rs p).length ≤ 512 := by
  unfold belowL
  split
  · rw [List.length_map]
    have h1 := rchL_len (edgesQ rs) (namesQ rs).length ((namesQ rs).idxOf p)
    have h2 := names_few h0
    rw [← namesQ_len] at h2
    omega
  · simp
def OthersPost (rs : List Rule) (given wanted : List ByteArray) (a : Option Addr) (n c : Nat) (wa : Option Addr) (wn wc : Nat) (w : World) (e : Ending) (w' : World) : Prop :=
  ∃ b pb vb kb qb km qm, e = .returned (.slice (some ⟨b, 0, none⟩) 4 4) ∧ Blk w' b 62 (othersV pb vb kb qb) ∧ OtherV rs given wanted a n c wa wn wc pb vb kb qb km qm w' ∧ (w.heap.size ≤ b ∧ w.heap.size ≤ pb ∧ w.heap.size ≤ vb ∧ w.heap.size ≤ kb ∧ w.heap.size ≤ qb ∧ w.heap.size ≤ km ∧ w.heap.size ≤ qm) ∧ Ext w w'
set_option maxRecDepth 100000 in
set_option maxHeartbeats 4000000 in
theorem c_others (rs : List Rule) (given wanted : List ByteArray) (a : Option Addr) (n c : Nat) (ga : Option Addr) (gn gc : Nat) (wa : Option Addr) (wn wc : Nat) (w : World) (h : RulesAt w a n rs) (h0 : K.checkP rs = 0) (hg : K.StrsAt w ga gn given) (hw : K.StrsAt w wa wn wanted) (hws : ∀ s ∈ wanted, okS s) :
    Calls Tryz.prog 17 #[.agg #[.slice a n c], .slice ga gn gc, .slice wa wn wc] w (OthersPost rs given wanted a n c wa wn wc w) := by
  have H := Lib.hid h
  have H0 := Lib.hid h0
  have HG := Lib.hid hg
  have HW := Lib.hid hw
  have HWS := Lib.hid hws
  have HWL := Lib.hid hw.2.1
  have hwn := hw.1
  have hmm := @run_makeMap Tryz.prog
  clear h h0 hg hw hws
  go_enter Tryz.func17, Tryz.ntmps17
  go_upto_region 1 with (fail)
  refine wp_gen (fun W1 hW => ?_)
  have E1 : Ext w W1 := by rw [hW]; exact ext_alloc (ext_alloc (Below.refl _ _) _) _
  have p0 : W1.cell? ⟨w.heap.size, 0, none⟩ = some (.slice a n c) := by rw [hW]; go_simp
  have q0 : W1.cell? ⟨w.heap.size + 1, 0, none⟩ = some (.slice wa wn wc) := by rw [hW]; go_simp
  obtain ⟨pb, hpb⟩ : ∃ pb, w.heap.size = pb := ⟨_, rfl⟩
  rw [hpb] at p0 q0 ⊢
  obtain ⟨vb, hvb⟩ : ∃ vb, pb + 1 = vb := ⟨_, rfl⟩
  rw [hvb] at q0 ⊢
  have CL := Lib.hid (c_live rs given a n c ga gn gc W1 (H.out.keep E1) (HG.out.keep E1))
  have HE1 := Lib.hid E1
  have HPB := Lib.hid hpb
  have HVB := Lib.hid hvb
  clear hW E1 hpb hvb
  go_upto_region 3 with (go_at_call 23; (with_reducible refine CL.out.mono ?_); unfold LivePost; rintro e w2 ⟨km, rfl, hkm, sm, E2⟩; have p0 := keep E2 p0; have q0 := keep E2 q0; have SM := Lib.hid sm; have HKM := Lib.hid hkm; have HE2 := Lib.hid (ext_trans HE1.out E2); clear sm hkm E2)
  refine wp_gen (fun W3 hW => ?_)
  have E3 : Ext w2 W3 := by rw [hW]; exact ext_alloc (ext_alloc (ext_alloc (Below.refl _ _) _) _) _
  have k0 : W3.cell? ⟨w2.heap.size, 0, none⟩ = some (.map (some km)) := by rw [hW]; go_simp
  have r0 : W3.cell? ⟨w2.heap.size + 1 + 1, 0, none⟩ = some (.map (some (w2.heap.size + 1))) := by rw [hW]; go_simp
  have sm0 : SMap W3 (w2.heap.size + 1) (stm []) := by
    rw [hW]
    have := (K.SMap.made (w2.alloc (.cells #[.map (some km)] 70))).ext (ext_alloc (Below.refl _ _) (.cells #[.map (some (w2.heap.size + 1))] 70))
    rw [World.size_alloc] at this
    exact this
  have m0 : MapSt w W3 W3 (w2.heap.size + 1) (stm (askedV rs (wanted.take 0))) := ⟨ext_trans HE2.out E3, K.gb_refl _ _, sm0⟩
  have p0 := keep E3 p0
  have q0 := keep E3 q0
  have hs2 := HE2.out.size
  obtain ⟨kb, hkb⟩ : ∃ kb, w2.heap.size = kb := ⟨_, rfl⟩
  rw [hkb] at k0 r0 m0 sm0 hs2 ⊢
  obtain ⟨qm, hqm⟩ : ∃ qm, kb + 1 = qm := ⟨_, rfl⟩
  rw [hqm] at r0 m0 sm0 ⊢
  obtain ⟨qb, hqb⟩ : ∃ qb, qm + 1 = qb := ⟨_, rfl⟩
  rw [hqb] at r0 ⊢
  have n1 : pb ≠ qm := smap_no_cell sm0 p0
  have n2 : vb ≠ qm := smap_no_cell sm0 q0
  have n3 : kb ≠ qm := by omega
  have n4 : qb ≠ qm := by omega
  have hkmk : km ≠ qm := by
    obtain ⟨_, _, hm, _⟩ := SM.out
    have := (Array.getElem?_eq_some_iff.1 hm).1
    omega
  have SM3 := Lib.hid (SM.out.ext E3)
  have HM0 := Lib.hid m0
  have HLE : Hid (w.heap.size ≤ kb ∧ w.heap.size ≤ qm ∧ w.heap.size ≤ qb) := ⟨by omega, by omega, by omega⟩
  have HKMK := Lib.hid hkmk
  have HWQ : Hid (w.heap.size ≤ qm) := HLE.out.2.1
  clear hW E3 sm0 m0 hkb hqm hqb hs2 SM HE2 CL hmm hkmk
  go_wp2
  go_loopw [21] (fun v wr => ∃ k : Nat, k ≤ wn ∧ v = .int .i64 (k : Int) ∧ MapSt w W3 wr qm (stm (askedV rs (wanted.take k)))) (fun v _ => wn - (intOf v).toNat)
  case atStart => exact ⟨0, Nat.zero_le _, rfl, HM0.out⟩
  case round =>
    obtain ⟨k, hk, rfl, hm⟩ := hrel
    have HM := Lib.hid hm
    have p1 := hm.cell p0 n1
    have q1 := hm.cell q0 n2
    have k1 := hm.cell k0 n3
    have r1 := hm.cell r0 n4
    by_cases hlt : ¬ k < wn
    · have hki : ¬ (k : Int) < (wn : Int) := by omega
      have FIN : Hid (∀ t : TypeId, t = 62 → OthersPost rs given wanted a n c wa wn wc w (.returned (.slice (some ⟨wr.heap.size, 0, none⟩) 4 4)) (wr.alloc (.cells (othersV pb vb kb qb).toArray t))) := fun t ht => by
        subst ht
        have e := ext_alloc (Below.refl _ wr : Ext wr wr) (.cells (othersV pb vb kb qb).toArray 62)
        have m := hm.map
        rw [List.take_of_length_le (by have := HWL.out; omega)] at m
        have ov : OtherV rs given wanted a n c wa wn wc pb vb kb qb km qm wr := by
          refine ⟨p1, q1, k1, r1, ?_, m⟩
          obtain ⟨es, cl, hmm, hx⟩ := SM3.out
          refine ⟨es, cl, ?_, hx⟩
          have := (Array.getElem?_eq_some_iff.1 hmm).1
          exact (hm.beside.block km this (fun e => HKMK.out (by cases e; rfl))).trans hmm
        have hws := hm.old.size
        refine ⟨wr.heap.size, pb, vb, kb, qb, km, qm, rfl, Blk.new wr _ _, ov.up e, ⟨hws, by have := HPB.out; omega, by have := HPB.out; have := HVB.out; omega, HLE.out.1, HLE.out.2.2, ?_, HLE.out.2.1⟩, ext_trans hm.old e⟩
        have := HKM.out
        have := HE1.out.size
        omega
      clear hm
      go_wp2
      go_returns
      exact FIN.out _ rfl
    · have hlt : k < wn := by omega
      have hki : (k : Int) < (wn : Int) := by omega
      obtain ⟨x, sb, so, hx, rfl, hsc⟩ := (HW.out.keep hm.old).at hlt
      obtain ⟨o, hrun, hsm⟩ := K.run_upd (P := Tryz.prog) (t := 70) hm.map Tryz.underlying70 Tryz.underlying9 x (.bool true)
      have ST1 : MapSt w W3 (setMap wr qm o) qm (stm (askedV rs (wanted.take k) ++ [x])) := by
        rw [← K.stm_upd]
        exact hm.turn HWQ.out hsm
      have TK : Hid (askedV rs (wanted.take (k + 1)) = askedV rs (wanted.take k) ++ [x] ++ belowL rs x) := by
        show _ = _
        rw [take_at hx]
        unfold askedV
        rw [List.flatMap_append, List.append_assoc]
        simp
      have hok : okS x := HWS.out x (List.mem_of_getElem? hx)
      obtain ⟨W4, hW4⟩ : ∃ W4, setMap wr qm o = W4 := ⟨_, rfl⟩
      rw [hW4] at ST1 hrun
      have p4 := ST1.cell p0 n1
      have CB := Lib.hid (c_below rs x a n c W4 (H.out.keep ST1.old) H0.out hok)
      have HLT := Lib.hid hlt
      have HST1 := Lib.hid ST1
      obtain ⟨A0, hA0⟩ : ∃ A0, askedV rs (wanted.take k) ++ [x] = A0 := ⟨_, rfl⟩
      rw [hA0] at TK
      rw [hA0] at HST1
      obtain ⟨BL, hBL⟩ : ∃ BL, belowL rs x = BL := ⟨_, rfl⟩
      have hbl : BL.length ≤ 512 := by rw [← hBL]; exact below_few rs H0.out x
      unfold BelPost at CB
      rw [hBL] at CB TK
      clear hm ST1 hsm hx hok hA0 hBL p1 q1 k1 HM
      go_upto_region 7 with (fail)
      clear hW4 hrun
      go_upto_region 8 with (go_at_call 45; (with_reducible refine CB.out.mono ?_); rintro e w5 ⟨v5, er, rfl, own5, E5⟩; obtain ⟨ba, bc, rfl, hsa⟩ := K.own_strs own5 (by omega); have SA := Lib.hid hsa; have HST5 := Lib.hid (HST1.out.grow E5); clear own5 hsa E5)
      obtain ⟨bl, hbl2⟩ : ∃ bl, BL.length = bl := ⟨_, rfl⟩
      have HBL := Lib.hid hbl2
      rw [hbl2] at SA hbl ⊢
      clear hbl2 CB
      have hs0 : Hid (stm (A0 ++ BL.take 0) = stm A0) := by
        show _ = _
        simp
      go_wp2
      go_loopw [35] (fun v wj => ∃ j : Nat, j ≤ bl ∧ v = .int .i64 (j : Int) ∧ MapSt w W3 wj qm (stm (A0 ++ BL.take j)) ∧ ButS (fun x => x = qm) w5 wj) (fun v _ => bl - (intOf v).toNat)
      case atStart => exact ⟨0, Nat.zero_le _, rfl, by rw [hs0.out]; exact HST5.out, ButS.refl _ _⟩
      case round =>
        obtain ⟨j, hj, rfl, hm, bt⟩ := hrel
        have HM := Lib.hid hm
        have HB := Lib.hid bt
        have r1 := hm.cell r0 n4
        by_cases hjl : ¬ j < bl
        · have hji : ¬ (j : Int) < (bl : Int) := by omega
          have FIN : Hid (MapSt w W3 wr qm (stm (askedV rs (wanted.take (k + 1))))) := by
            show MapSt _ _ _ _ _
            rw [TK.out]
            have := HM.out
            rw [List.take_of_length_le (by have := HBL.out; omega)] at this
            exact this
          clear hm bt
          go_wp2
          refine ⟨⟨k + 1, HLT.out, by go_num, FIN.out⟩, ?_⟩
          have := HLT.out
          simp [intOf]
          omega
        · have hjl : j < bl := by omega
          have hji : (j : Int) < (bl : Int) := by omega
          have SAj := strs_but SA.out bt (fun b off s hc e => smap_no_cell HST5.out.map hc e)
          obtain ⟨y, tb, to_, hy, rfl, hyc⟩ := SAj.at hjl
          obtain ⟨o, hrun, hsm⟩ := K.run_upd (P := Tryz.prog) (t := 70) hm.map Tryz.underlying70 Tryz.underlying9 y (.bool true)
          have ST2 : Hid (MapSt w W3 (setMap wr qm o) qm (stm (A0 ++ BL.take (j + 1)))) := by
            show MapSt _ _ _ _ _
            rw [take_at hy, ← List.append_assoc, ← K.stm_upd]
            exact hm.turn HWQ.out hsm
          have HB2 : Hid (ButS (fun x => x = qm) w5 (setMap wr qm o)) := bt.trans (setMap_but wr qm o)
          have HJL := Lib.hid hjl
          clear hm bt hsm hy SAj
          go_wp2
          go_roundw
          case rel => exact ⟨j + 1, HJL.out, by go_num, ST2.out, HB2.out⟩
          case measure => have := HJL.out; simp [intOf]; omega
end Go.Proofs.YtlalgaioiapjmaaGreatDoor
