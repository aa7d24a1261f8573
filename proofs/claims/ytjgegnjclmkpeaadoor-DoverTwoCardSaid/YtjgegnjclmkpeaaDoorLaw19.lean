/- Layer 19's helpers: heavy, good, ints, fates, two, awake. -/
import Derived.Test.YtjgegnjclmkpeaaDoorLaw20
import Derived.Test.YtjgegnjclmkpeaaDoorDovRun
set_option linter.unusedVariables false
set_option linter.unusedSimpArgs false
namespace Go.Proofs.YtjgegnjclmkpeaaDoor
open Go.RowKit Go.Sort Go.Proofs

set_option maxHeartbeats 1000000 in
theorem heavy19_any (A : Option Addr) (b off c : Nat) (l : List Job) (most last : Nat) (w : World) (R : RdJobs w A b off l) (hm : most ≤ 1000) (hlast : last ≤ 10000) :
    Calls Tryd.prog 62 #[.slice A l.length c, .int .i64 most, .int .i64 last] w fun e w' => e = .returned (.bool (heavyB most last l)) ∧ w = w' := by
  have hn := R.len
  have HR : Aside0 _ := ⟨R⟩
  obtain ⟨n, hn'⟩ : ∃ n, n = l.length := ⟨_, rfl⟩
  have HN := hide hn'
  have hF : heavyB most last l = (decide (most < n) || l.any (heavy1 last)) := by rw [hn']; rfl
  have HF := hide hF
  rw [← hn'] at hn ⊢
  clear hn' R hF
  by_cases hmn : most < n
  · have hz : (most : Int) < (n : Int) := by omega
    have hmd := decide_eq_true hmn
    have HMD := hide hmd
    go_enter Tryd.func62, Tryd.ntmps62
    go_wp2
    go_ret
    exact ⟨ret_bool (by rw [HF.out, HMD.out]; rfl), rfl⟩
  · have hmd := decide_eq_false hmn
    have HMD := hide hmd
    clear hmd
    go_enter Tryd.func62, Tryd.ntmps62
    go_wp2
    go_loopw [7] (fun q wr => ∃ k : Nat, k ≤ n ∧ q = .int .i64 k ∧ w = wr ∧ Hid ((l.take k).any (heavy1 last) = false)) (fun q _ => n - (intOf q).toNat)
    case atStart => exact ⟨0, by omega, rfl, rfl, by simp [Hid]⟩
    case round =>
      obtain ⟨k, hk, rfl, rfl, HK⟩ := hrel
      by_cases hlt : k < n
      · have hkl : k < l.length := by rw [← HN.out]; exact hlt
        have hA := HR.out.addr (by omega)
        subst hA
        obtain ⟨j0, j1, j2, j3, j4, j5, j6, j7⟩ := HR.out.row k hkl
        have hnm := HR.out.names _ (Rob.jb_mem hkl)
        have hstep : (l.take (k + 1)).any (heavy1 last) = heavy1 last (Rob.jb l k) := by
          rw [List.take_succ_eq_append_getElem hkl, List.any_append, HK.out, Rob.jb_get hkl]; simp
        have hmem : heavy1 last (Rob.jb l k) = true → l.any (heavy1 last) = true := fun h => List.any_eq_true.2 ⟨_, Rob.jb_mem hkl, h⟩
        have HS := hide hstep
        have HMEM := hide hmem
        clear hstep hmem
        generalize Rob.jb l k = j at *
        have hH : heavy1 last j = (decide (100 < j.name.size) || (decide ((last : Int) < j.dl) && decide (j.dl ≤ 10000))) := rfl
        have HH := hide hH
        clear hH
        by_cases hs : 100 < j.name.size
        · have hsz : (100 : Int) < (j.name.size : Int) := by omega
          have hsd := decide_eq_true hs
          have HSD := hide hsd
          go_wp2
          go_ret
          exact ⟨ret_bool (by rw [HF.out, HMEM.out (by rw [HH.out, HSD.out]; rfl)]; simp), rfl⟩
        · have hsz : ¬ ((100 : Int) < (j.name.size : Int)) := by omega
          have hsd := decide_eq_false hs
          have HSD := hide hsd
          by_cases h1 : (last : Int) < j.dl
          · have hd1 := decide_eq_true h1
            have HD1 := hide hd1
            by_cases h2 : j.dl ≤ 10000
            · have hd2 := decide_eq_true h2
              have HD2 := hide hd2
              go_wp2
              go_ret
              exact ⟨ret_bool (by rw [HF.out, HMEM.out (by rw [HH.out, HSD.out, HD1.out, HD2.out]; rfl)]; simp), rfl⟩
            · have hd2 := decide_eq_false h2
              have HD2 := hide hd2
              go_wp2
              go_roundw
              case rel => exact ⟨k + 1, by omega, by go_num, by first | trivial | rfl, by show _ = _; rw [HS.out, HH.out, HSD.out, HD1.out, HD2.out]; rfl⟩
              case measure => simp [intOf]; omega
          · have hd1 := decide_eq_false h1
            have HD1 := hide hd1
            go_wp2
            go_roundw
            case rel => exact ⟨k + 1, by omega, by go_num, by first | trivial | rfl, by show _ = _; rw [HS.out, HH.out, HSD.out, HD1.out]; rfl⟩
            case measure => simp [intOf]; omega
      · have hfin : heavyB most last l = false := by
          have h1 := HK.out
          rw [List.take_of_length_le (by rw [← HN.out]; omega)] at h1
          rw [HF.out, HMD.out, h1]; rfl
        have HFI := hide hfin
        clear hfin
        go_wp2
        go_ret
        exact ⟨ret_bool (by rw [HFI.out]), rfl⟩
theorem good19_any (A : Option Addr) (b off c : Nat) (l : List Job) (w : World) (R : RdJobs w A b off l) (hT : Tabs w) :
    Calls Tryd.prog 26 #[.slice A l.length c] w fun e w' => e = .returned (.bool (!(heavyB 12 300 l) && allOk l)) ∧ Below w.heap.size w w' := by
  have hh := heavy19_any A b off c l 12 300 w R (by omega) (by omega)
  have ha := all_any A b off c l w R hT
  have HH : Aside0 _ := ⟨hh⟩
  have HA : Aside0 _ := ⟨ha⟩
  clear hh ha
  generalize l.length = n at *
  cases hB : heavyB 12 300 l with
  | true =>
    rw [hB] at HH
    go_enter Tryd.func26, Tryd.ntmps26
    go_wp2_with (first | (go_at_call 62; refine HH.out.mono ?_; rintro e w1 ⟨rfl, rfl⟩) | (go_at_call 41; refine HA.out.mono ?_; rintro e w2 ⟨rfl, hb⟩))
    go_ret
    exact ⟨rfl, Below.refl _ _⟩
  | false =>
    rw [hB] at HH
    generalize allOk l = r at *
    go_enter Tryd.func26, Tryd.ntmps26
    go_wp2_with (first | (go_at_call 62; refine HH.out.mono ?_; rintro e w1 ⟨rfl, rfl⟩) | (go_at_call 41; refine HA.out.mono ?_; rintro e w2 ⟨rfl, hb⟩))
    go_ret
    exact ⟨ret_bool (by simp), hb⟩
/-- Two rows of numbers that are alike. -/
theorem ints19_any (A : Option Addr) (b off c : Nat) (A2 : Option Addr) (b2 off2 c2 : Nat) (t : List Int) (w : World) (R : RdInts w A b off t) (R2 : RdInts w A2 b2 off2 t) :
    Calls Tryd.prog 29 #[.slice A t.length c, .slice A2 t.length c2] w fun e w' => e = .returned (.bool true) ∧ Below w.heap.size w w' := by
  have mixed : Tryd.prog.follows .mixedOrders = true := by kernel_rfl
  have hn := R.len
  have HR : Aside0 _ := ⟨R⟩
  have HR2 : Aside0 _ := ⟨R2⟩
  obtain ⟨n, hn'⟩ : ∃ n, n = t.length := ⟨_, rfl⟩
  have HN := hide hn'
  rw [← hn'] at hn ⊢
  clear hn' R R2
  go_enter Tryd.func29, Tryd.ntmps29
  go_wp2
  go_loopw [5] (fun q wr => ∃ k : Nat, k ≤ n ∧ q = .int .i64 k ∧ Below w.heap.size w wr) (fun q _ => n - (intOf q).toNat)
  case atStart => exact ⟨0, by omega, rfl, Below.refl _ _⟩
  case round =>
    obtain ⟨k, hk, rfl, hb⟩ := hrel
    by_cases hlt : k < n
    · have hkl : k < t.length := by rw [← HN.out]; exact hlt
      have hA := HR.out.addr (by omega)
      have hA2 := HR2.out.addr (by omega)
      subst hA
      subst hA2
      have h1 := (HR.out.below hb).c k hkl
      have h2 := (HR2.out.below hb).c k hkl
      generalize t.getD k 0 = y at h1 h2
      have hkz : (k : Int) < (n : Int) := by omega
      go_wp2_with fail
      go_quiet (fail)
      go_wp2
      go_roundw
      case rel => exact ⟨k + 1, by omega, by go_num, below_drewN hb _⟩
      case measure => simp [intOf]; omega
    · go_wp2
      go_ret
      exact ⟨rfl, hb⟩
/-- Fates to read. -/
structure RdFates (w : World) (A : Option Addr) (b : Nat) (l : List (Int × Int)) : Prop where
  len : l.length ≤ 1000000000
  addr : 0 < l.length → A = some ⟨b, 0, none⟩
  lt : 0 < l.length → b < w.heap.size
  c : ∀ i, i < l.length → w.cell? ⟨b, i * 2, none⟩ = some (.int .i64 (l.getD i (0, 0)).1) ∧ w.cell? ⟨b, i * 2 + 1, none⟩ = some (.int .i64 (l.getD i (0, 0)).2)
theorem RdFates.below {w w' : World} {A : Option Addr} {b : Nat} {l : List (Int × Int)} (h : RdFates w A b l) (hb : Below w.heap.size w w') : RdFates w' A b l :=
  ⟨h.len, h.addr, fun h0 => Nat.lt_of_lt_of_le (h.lt h0) hb.size, fun i hi => ⟨(hb.cell (p := ⟨b, i * 2, none⟩) (h.lt (by omega))).trans (h.c i hi).1, (hb.cell (p := ⟨b, i * 2 + 1, none⟩) (h.lt (by omega))).trans (h.c i hi).2⟩⟩
/-- Two rows of fates that are alike. -/
theorem fates19_any (A : Option Addr) (b c : Nat) (A2 : Option Addr) (b2 c2 : Nat) (t : List (Int × Int)) (w : World) (R : RdFates w A b t) (R2 : RdFates w A2 b2 t) :
    Calls Tryd.prog 61 #[.slice A t.length c, .slice A2 t.length c2] w fun e w' => e = .returned (.bool true) ∧ Below w.heap.size w w' := by
  have hn := R.len
  have HR : Aside0 _ := ⟨R⟩
  have HR2 : Aside0 _ := ⟨R2⟩
  obtain ⟨n, hn'⟩ : ∃ n, n = t.length := ⟨_, rfl⟩
  have HN := hide hn'
  rw [← hn'] at hn ⊢
  clear hn' R R2
  go_enter Tryd.func61, Tryd.ntmps61
  go_wp2
  go_loopw [5] (fun q wr => ∃ k : Nat, k ≤ n ∧ q = .int .i64 k ∧ Below w.heap.size w wr) (fun q _ => n - (intOf q).toNat)
  case atStart => exact ⟨0, by omega, rfl, Below.refl _ _⟩
  case round =>
    obtain ⟨k, hk, rfl, hb⟩ := hrel
    by_cases hlt : k < n
    · have hkl : k < t.length := by rw [← HN.out]; exact hlt
      have hA := HR.out.addr (by omega)
      have hA2 := HR2.out.addr (by omega)
      subst hA
      subst hA2
      obtain ⟨h1, h1'⟩ := (HR.out.below hb).c k hkl
      obtain ⟨h2, h2'⟩ := (HR2.out.below hb).c k hkl
      generalize (t.getD k (0, 0)).1 = y at h1 h2
      generalize (t.getD k (0, 0)).2 = z at h1' h2'
      have hkz : (k : Int) < (n : Int) := by omega
      go_wp2_with fail
      go_quiet (fail)
      go_wp2
      go_roundw
      case rel => exact ⟨k + 1, by omega, by go_num, below_drewN hb _⟩
      case measure => simp [intOf]; omega
    · go_wp2
      go_ret
      exact ⟨rfl, hb⟩
end Go.Proofs.YtjgegnjclmkpeaaDoor
