/- The statement RobustHard: the walk. -/
import Derived.Test.YtjgegnjclmkpeaaDoorAwake
import Derived.Test.YtjgegnjclmkpeaaDoorRobHardPlain
set_option linter.unusedVariables false
set_option linter.unusedSimpArgs false
namespace Go.Proofs.YtjgegnjclmkpeaaDoor
open Go.RowKit Go.Sort Go.Proofs

theorem heavy_len {most last : Nat} {l : List Job} (h : heavyB most last l = false) : l.length ≤ most := by
  simp only [heavyB, Bool.or_eq_false_iff, decide_eq_false_iff_not] at h
  omega
set_option maxHeartbeats 4000000 in
set_option maxRecDepth 100000 in
theorem robustHard_any (A : Option Addr) (b off c : Nat) (l : List Job) (w : World) (R : RdJobs w A b off l) (hT : Tabs w) :
    Calls Tryd.prog 3 #[.slice A l.length c] w fun e w' => e = .returned (.bool true) ∧ Below w.heap.size w w' := by
  have mixed : Tryd.prog.follows .mixedOrders = true := by kernel_rfl
  have hn := R.len
  have HAW : Aside0 _ := ⟨awake_any w hT⟩
  have hgood : ∀ W, Below w.heap.size w W → Calls Tryd.prog 15 #[.slice A l.length c] W fun e w' => e = .returned (.bool (!(heavyB 12 300 l) && allOk l)) ∧ Below W.heap.size W w' := fun W hW => good20_any A b off c l W (R.below hW) (hT.below hW)
  cases hg : (!(heavyB 12 300 l) && allOk l) with
  | false =>
    rw [hg] at hgood
    have HG : Aside0 _ := ⟨hgood⟩
    clear hg hgood R hT
    generalize l.length = n at *
    go_enter Tryd.func3, Tryd.ntmps3
    go_wp2_with (first | (go_at_call 14; refine HAW.out.mono ?_; rintro e w1 ⟨rfl, hb1⟩) | (go_at_call 15; refine (HG.out w1 hb1).mono ?_; rintro e w2 ⟨rfl, hb2⟩))
    go_ret
    exact ⟨rfl, below_then hb1 hb2⟩
  | true =>
    rw [hg] at hgood
    have HG : Aside0 _ := ⟨hgood⟩
    simp only [Bool.and_eq_true, Bool.not_eq_true'] at hg
    obtain ⟨hheavy, hok⟩ := hg
    have hl12 := heavy_len hheavy
    obtain ⟨hlf, htr, hlaw⟩ := Rob.hard_law (l := l) (allGood_ok hok) (by omega)
    have hrun : ∀ W, Below w.heap.size w W → Calls Tryd.prog 16 #[.slice A l.length c] W fun e w' => Below W.heap.size W w' ∧ ∃ v, e = .returned (.tuple #[outVal v (Rob.run l), .int .i64 0]) ∧ OutAt w' W.heap.size v (Rob.run l) :=
      fun W hW => robRun_any A b off c l W (R.below hW) (hT.below hW) hok (by omega)
    have HRUN : Aside0 _ := ⟨hrun⟩
    have HLAW := hide hlaw
    have HLF := hide hlf
    have HTR := hide htr
    have HR : Aside0 _ := ⟨R⟩
    have HT : Aside0 _ := ⟨hT⟩
    have HOK := hide hok
    have htl : (Rob.run l).tr.length ≤ 10000 := by
      have : (decide ((Rob.run l).tr.length ≤ 10000) && traceGo l 0 (List.replicate l.length 0) (Rob.run l).tr) = true := htr
      simp only [Bool.and_eq_true, decide_eq_true_eq] at this
      exact this.1
    obtain ⟨s, hs⟩ : ∃ s, s = Rob.run l := ⟨_, rfl⟩
    rw [← hs] at HRUN HLAW HLF HTR htl
    obtain ⟨n, hn'⟩ : ∃ n, n = l.length := ⟨_, rfl⟩
    have HN := hide hn'
    rw [← hn'] at HG HRUN hl12 hn ⊢
    clear hs hn' hgood hrun hlaw hlf htr R hT hok hheavy
    go_enter Tryd.func3, Tryd.ntmps3
    go_wp2_with (first | (go_at_call 14; refine HAW.out.mono ?_; rintro e w1 ⟨rfl, hb1⟩) | (go_at_call 15; refine (HG.out w1 hb1).mono ?_; rintro e w2 ⟨rfl, hb2⟩) | (go_at_call 16; refine (HRUN.out w2 (below_then hb1 hb2)).mono ?_; rintro e w3 ⟨hb3, v, rfl, hO⟩; have HO : Aside0 _ := ⟨hO⟩; have HB3 : Aside0 _ := ⟨below_then (below_then hb1 hb2) hb3⟩; unfold outVal; rw [HLF.out, ← HN.out]; clear hO hb3))
    obtain ⟨W4, hW4⟩ : ∃ W4, W4 = w3.alloc (.cells #[.slice v.Atr s.tr.length v.ctr, .slice (some ⟨v.bfa, 0, none⟩) n v.cfa, .slice v.Ash s.sh.length v.csh, .slice v.Aag s.ag.length v.cag] 28 (0, 0)) := ⟨_, rfl⟩
    have hb34 : Below w3.heap.size w3 W4 := by rw [hW4]; exact below_alloc (Below.refl _ w3) _
    have o0 : W4.cell? ⟨w3.heap.size, 0, none⟩ = some (.slice v.Atr s.tr.length v.ctr) := by rw [hW4]; simp
    have o1 : W4.cell? ⟨w3.heap.size, 1, none⟩ = some (.slice (some ⟨v.bfa, 0, none⟩) n v.cfa) := by rw [hW4]; simp
    have hos : w3.heap.size < W4.heap.size := by rw [hW4]; simp
    rw [← hW4]
    have hb4 := below_then HB3.out hb34
    have hR4 := HR.out.below hb4
    have hT4 := HT.out.below hb4
    have hfa := own_below HO.out.fa hb34
    rw [HLF.out] at hfa
    obtain ⟨bt, hti⟩ := rdi_own (own_below HO.out.tr hb34) (by omega)
    have hgood := traceGood_any A b off c l v.Atr bt 0 v.ctr s.tr W4 hR4 hti hT4 HOK.out HTR.out
    rw [← HN.out] at hgood
    have hdone : ∀ (k : Nat), k < l.length → ∀ W, Below W4.heap.size W4 W → Calls Tryd.prog 18 #[.slice A n c, .slice v.Atr s.tr.length v.ctr, .int .i64 k] W fun e w' => e = .returned (.tuple #[.int .i64 (doneAt l s.tr k).1, .bool (doneAt l s.tr k).2]) ∧ Below W.heap.size W w' := fun k hk W hW => by
      have := doneAt_any A b off c l v.Atr bt 0 v.ctr s.tr k W (hR4.below hW) (hti.below hW) (hT4.below hW) HOK.out hk
      rw [← HN.out] at this
      exact this
    have hran : ∀ (i : Int) W, Below W4.heap.size W4 W → Calls Tryd.prog 20 #[.slice v.Atr s.tr.length v.ctr, .int .i64 i] W fun e w' => e = .returned (.int .i64 (ranIn s.tr i)) ∧ W = w' := fun i W hW => ran_any v.Atr bt 0 v.ctr s.tr i W (hti.below hW)
    have HGOOD : Aside0 _ := ⟨hgood⟩
    have HDONE : Aside0 _ := ⟨hdone⟩
    have HRAN : Aside0 _ := ⟨hran⟩
    have HR4 : Aside0 _ := ⟨hR4⟩
    have HFA : Aside0 _ := ⟨hfa⟩
    have HB4 : Aside0 _ := ⟨hb4⟩
    generalize w3.heap.size = ob at o0 o1 hos ⊢
    clear hgood hdone hran hR4 hT4 hfa hti hb34 hW4 hb4 hb1 hb2 HRUN HG
    generalize s.tr.length = mt at *
    go_at_call 17
    refine HGOOD.out.mono ?_
    rintro e w5 ⟨rfl, hb5⟩
    have p0 := (hb5.cell (p := ⟨ob, 0, none⟩) hos).trans o0
    have p1 := (hb5.cell (p := ⟨ob, 1, none⟩) hos).trans o1
    have hos5 := Nat.lt_of_lt_of_le hos hb5.size
    have HB5 : Aside0 _ := ⟨hb5⟩
    clear o0 o1 hb5
    go_wp2
    go_loopw [5, 6, 7, 8] (fun q _ _ _ wr => ∃ k : Nat, k ≤ n ∧ q = .int .i64 k ∧ Below w5.heap.size w5 wr) (fun q _ _ _ _ => n - (intOf q).toNat)
    case atStart => exact ⟨0, by omega, rfl, Below.refl _ _⟩
    case round =>
      obtain ⟨k, hk, rfl, hb⟩ := hrel
      by_cases hlt : k < n
      · have hkl : k < l.length := by rw [← HN.out]; exact hlt
        have hAA := HR.out.addr (by omega)
        subst hAA
        have hb4r := below_then HB5.out hb
        have q0 := (hb.cell (p := ⟨ob, 0, none⟩) hos5).trans p0
        have q1 := (hb.cell (p := ⟨ob, 1, none⟩) hos5).trans p1
        have hosr := Nat.lt_of_lt_of_le hos5 hb.size
        obtain ⟨g0, g1⟩ := own_fate (own_below HFA.out hb4r) k hkl
        have hlaw := HLAW.out k hkl
        have hrows : ∀ W, Below wr.heap.size wr W → Row W b (off + k * 8) (Rob.jb l k) := fun W hW => (HR4.out.below (below_then hb4r hW)).row k hkl
        have hdone := fun W (hW : Below wr.heap.size wr W) => HDONE.out k hkl W (below_then hb4r hW)
        have hran := fun W (hW : Below wr.heap.size wr W) => HRAN.out k W (below_then hb4r hW)
        have hkz : (k : Int) < (n : Int) := by omega
        have HBR : Aside0 _ := ⟨hb⟩
        have HROWS : Aside0 _ := ⟨hrows⟩
        have hblt := (HR4.out.below hb4r).lt (by omega)
        clear hrows hb hb4r p0 p1
        generalize s.fa.getD k (0, 0) = F at g0 g1 hlaw
        obtain ⟨kf, af⟩ := F
        simp only at g0 g1 hlaw
        generalize Rob.jb l k = j at *
        generalize doneAt l s.tr k = D at hdone hlaw
        obtain ⟨at_, dn⟩ := D
        simp only at hdone hlaw
        generalize ranIn s.tr k = rn at hran hlaw
        have HDN : Aside0 _ := ⟨hdone⟩
        have HRN : Aside0 _ := ⟨hran⟩
        clear hdone hran
        obtain ⟨W6, hW6⟩ : ∃ W6, W6 = wr.alloc (.cells #[.int .i64 kf, .int .i64 af] 34 (0, 0)) := ⟨_, rfl⟩
        have hb6 : Below wr.heap.size wr W6 := by rw [hW6]; exact below_alloc (Below.refl _ wr) _
        have e0 : W6.cell? ⟨wr.heap.size, 0, none⟩ = some (.int .i64 kf) := by rw [hW6]; simp
        have e1 : W6.cell? ⟨wr.heap.size, 1, none⟩ = some (.int .i64 af) := by rw [hW6]; simp
        have hbx6 : wr.heap.size < W6.heap.size := by rw [hW6]; simp
        have HW6 := hide hW6
        have HB6 : Aside0 _ := ⟨hb6⟩
        clear hb6 hW6
        rcases hlaw with ⟨rfl, hru, hd, hdl⟩ | ⟨rfl, hru, hd, hdl⟩ | ⟨rfl, hh, hd⟩ | ⟨rfl, hh, hrz, har⟩
        · simp only [Prod.mk.injEq] at hd
          obtain ⟨rfl, rfl⟩ := hd
          have hrd : decide (j.act ≤ j.bud) = true := hru
          have hra : j.act ≤ j.bud := of_decide_eq_true hrd
          have hn1 : ¬ (j.dl < at_) := by omega
          have hn2 : decide (j.dl < at_) = false := decide_eq_false hn1
          clear hru
          go_wp2_with (first | (go_at_call 18; rw [← HW6.out]; refine (HDN.out W6 HB6.out).mono ?_; rintro e w7 ⟨rfl, hb7⟩; have x0 := (hb7.cell (p := ⟨wr.heap.size, 0, none⟩) hbx6).trans e0; have x1 := (hb7.cell (p := ⟨wr.heap.size, 1, none⟩) hbx6).trans e1; have hx7 := Nat.lt_of_lt_of_le hbx6 hb7.size; obtain ⟨j0, j1, j2, j3, j4, j5, j6, j7⟩ := HROWS.out w7 (below_then HB6.out hb7); have HB7 : Aside0 _ := ⟨below_then HB6.out hb7⟩; clear hb7) | (go_at_call 19; refine (runs_any _ _ _ _ _ _ _ _ _).mono ?_; rintro e w8 ⟨rfl, hb8⟩; have y1 := (hb8.cell (p := ⟨wr.heap.size, 1, none⟩) hx7).trans x1; obtain ⟨k0, k1, k2, k3, k4, k5, k6, k7⟩ := HROWS.out w8 (below_then HB7.out hb8); have HB8 : Aside0 _ := ⟨below_then HB7.out hb8⟩; clear hb8))
          go_roundw
          case rel => exact ⟨k + 1, by omega, by go_num, below_then HBR.out HB8.out⟩
          case measure => simp [intOf]; omega
        · simp only [Prod.mk.injEq] at hd
          obtain ⟨rfl, rfl⟩ := hd
          have hrd : decide (j.act ≤ j.bud) = false := hru
          have hra : ¬ (j.act ≤ j.bud) := of_decide_eq_false hrd
          have hn1 : ¬ (j.dl < at_) := by omega
          have hn2 : decide (j.dl < at_) = false := decide_eq_false hn1
          clear hru
          go_wp2_with (first | (go_at_call 18; rw [← HW6.out]; refine (HDN.out W6 HB6.out).mono ?_; rintro e w7 ⟨rfl, hb7⟩; have x0 := (hb7.cell (p := ⟨wr.heap.size, 0, none⟩) hbx6).trans e0; have x1 := (hb7.cell (p := ⟨wr.heap.size, 1, none⟩) hbx6).trans e1; have hx7 := Nat.lt_of_lt_of_le hbx6 hb7.size; obtain ⟨j0, j1, j2, j3, j4, j5, j6, j7⟩ := HROWS.out w7 (below_then HB6.out hb7); have HB7 : Aside0 _ := ⟨below_then HB6.out hb7⟩; clear hb7) | (go_at_call 19; refine (runs_any _ _ _ _ _ _ _ _ _).mono ?_; rintro e w8 ⟨rfl, hb8⟩; have y1 := (hb8.cell (p := ⟨wr.heap.size, 1, none⟩) hx7).trans x1; obtain ⟨k0, k1, k2, k3, k4, k5, k6, k7⟩ := HROWS.out w8 (below_then HB7.out hb8); have HB8 : Aside0 _ := ⟨below_then HB7.out hb8⟩; clear hb8))
          go_roundw
          case rel => exact ⟨k + 1, by omega, by go_num, below_then HBR.out HB8.out⟩
          case measure => simp [intOf]; omega
        · subst hd
          go_wp2_with (first | (go_at_call 18; rw [← HW6.out]; refine (HDN.out W6 HB6.out).mono ?_; rintro e w7 ⟨rfl, hb7⟩; have x0 := (hb7.cell (p := ⟨wr.heap.size, 0, none⟩) hbx6).trans e0; have x1 := (hb7.cell (p := ⟨wr.heap.size, 1, none⟩) hbx6).trans e1; have hx7 := Nat.lt_of_lt_of_le hbx6 hb7.size; obtain ⟨j0, j1, j2, j3, j4, j5, j6, j7⟩ := HROWS.out w7 (below_then HB6.out hb7); have HB7 : Aside0 _ := ⟨below_then HB6.out hb7⟩; clear hb7))
          go_roundw
          case rel => exact ⟨k + 1, by omega, by go_num, below_then HBR.out HB7.out⟩
          case measure => simp [intOf]; omega
        · subst hrz
          subst har
          go_wp2_with (first | (go_at_call 18; rw [← HW6.out]; refine (HDN.out W6 HB6.out).mono ?_; rintro e w7 ⟨rfl, hb7⟩; have x0 := (hb7.cell (p := ⟨wr.heap.size, 0, none⟩) hbx6).trans e0; have x1 := (hb7.cell (p := ⟨wr.heap.size, 1, none⟩) hbx6).trans e1; have hx7 := Nat.lt_of_lt_of_le hbx6 hb7.size; obtain ⟨j0, j1, j2, j3, j4, j5, j6, j7⟩ := HROWS.out w7 (below_then HB6.out hb7); have HB7 : Aside0 _ := ⟨below_then HB6.out hb7⟩; clear hb7))
          have z0 := (HB7.out.cell (p := ⟨ob, 0, none⟩) hosr).trans q0
          have hob7 := Nat.lt_of_lt_of_le hosr HB7.out.size
          have hb7 := Nat.lt_of_lt_of_le hblt HB7.out.size
          have hcs := bw_cells w7
          have hrn := fun p : BW w7 => calls_bw_same p (HRN.out p.W (below_then HB7.out p.h))
          have HRN2 : Aside0 _ := ⟨hrn⟩
          clear hrn q0 q1 g0 g1 e0 e1
          refine wp_region_bw mixed (by kernel_rfl) ?_
          repeat (go_big_quiet_step ((go_at_call 20; exact HRN2.out _)))
          refine wpQuiet_nil ?_
          rintro w' ⟨p, rfl⟩
          go_wp2
          go_roundw
          case rel => exact ⟨k + 1, by omega, by go_num, below_then HBR.out (below_then HB7.out p.h)⟩
          case measure => simp [intOf]; omega
      · go_wp2
        go_ret
        exact ⟨rfl, below_then (below_then HB4.out HB5.out) hb⟩
end Go.Proofs.YtjgegnjclmkpeaaDoor
