/- The statement DoverTrace: the walk. -/
import Derived.Test.YtjgegnjclmkpeaaDoorAwake19
set_option linter.unusedVariables false
set_option linter.unusedSimpArgs false
namespace Go.Proofs.YtjgegnjclmkpeaaDoor
open Go.RowKit Go.Sort Go.Proofs

theorem pq_of_rule {p q : Int} (h : ruleB p q = true) : PQ p q ∧ q ≤ p := by
  simp only [ruleB, rootB, inN, Bool.and_eq_true, decide_eq_true_eq] at h
  exact ⟨⟨by omega, by omega, by omega, by omega⟩, by omega⟩
set_option maxHeartbeats 4000000 in
set_option maxRecDepth 100000 in
theorem doverTrace_any (p q : Int) (A : Option Addr) (b off c : Nat) (l : List Job) (w : World) (R : RdJobs w A b off l) (hT : Tabs w) :
    Calls Tryd.prog 5 #[.agg #[.int .i64 p, .int .i64 q], .slice A l.length c] w fun e w' => e = .returned (.bool true) ∧ Below w.heap.size w w' := by
  have mixed : Tryd.prog.follows .mixedOrders = true := by kernel_rfl
  have hn := R.len
  have hgood : ∀ W, Below w.heap.size w W → Calls Tryd.prog 26 #[.slice A l.length c] W fun e w' => e = .returned (.bool (!(heavyB 12 300 l) && allOk l)) ∧ Below W.heap.size W w' := fun W hW => good19_any A b off c l W (R.below hW) (hT.below hW)
  have hrule : ∀ W, Calls Tryd.prog 27 #[.agg #[.int .i64 p, .int .i64 q]] W fun e w' => e = .returned (.bool (ruleB p q)) ∧ Below W.heap.size W w' := fun W => rule_any p q W
  obtain ⟨W0, hW0⟩ : ∃ W0, W0 = w.alloc (.cells #[.int .i64 p, .int .i64 q] 45 (0, 0)) := ⟨_, rfl⟩
  have hb0 : Below w.heap.size w W0 := by rw [hW0]; exact below_alloc (Below.refl _ w) _
  have hrc : ∀ W, Below W0.heap.size W0 W → W.cell? ⟨w.heap.size, 0, none⟩ = some (.int .i64 p) ∧ W.cell? ⟨w.heap.size, 1, none⟩ = some (.int .i64 q) := fun W hW => by
    have h0 : W0.cell? ⟨w.heap.size, 0, none⟩ = some (.int .i64 p) := by rw [hW0]; simp
    have h1 : W0.cell? ⟨w.heap.size, 1, none⟩ = some (.int .i64 q) := by rw [hW0]; simp
    have hl : w.heap.size < W0.heap.size := by rw [hW0]; simp
    exact ⟨(hW.cell (p := ⟨w.heap.size, 0, none⟩) hl).trans h0, (hW.cell (p := ⟨w.heap.size, 1, none⟩) hl).trans h1⟩
  have HAW : Aside0 _ := ⟨awake19_any W0 (hT.below hb0)⟩
  have HB0 : Aside0 _ := ⟨hb0⟩
  have HRC : Aside0 _ := ⟨hrc⟩
  have HW0 := hide hW0
  clear hb0 hrc hW0
  cases hg : (!(heavyB 12 300 l) && allOk l) with
  | false =>
    rw [hg] at hgood
    have HG : Aside0 _ := ⟨hgood⟩
    clear hg hgood R hT
    generalize l.length = n at *
    go_enter Tryd.func5, Tryd.ntmps5
    go_wp2_with (first | (go_at_call 25; rw [← HW0.out]; refine HAW.out.mono ?_; rintro e w1 ⟨rfl, hb1⟩) | (go_at_call 26; refine (HG.out w1 (below_then HB0.out hb1)).mono ?_; rintro e w2 ⟨rfl, hb2⟩))
    go_ret
    exact ⟨rfl, below_then HB0.out (below_then hb1 hb2)⟩
  | true =>
    rw [hg] at hgood
    have HG : Aside0 _ := ⟨hgood⟩
    cases hru : ruleB p q with
    | false =>
      rw [hru] at hrule
      have HRU : Aside0 _ := ⟨hrule⟩
      clear hg hgood R hT hru hrule
      generalize l.length = n at *
      go_enter Tryd.func5, Tryd.ntmps5
      go_wp2_with (first | (go_at_call 25; rw [← HW0.out]; refine HAW.out.mono ?_; rintro e w1 ⟨rfl, hb1⟩) | (go_at_call 26; refine (HG.out w1 (below_then HB0.out hb1)).mono ?_; rintro e w2 ⟨rfl, hb2⟩; obtain ⟨c0, c1⟩ := HRC.out w2 (below_then hb1 hb2)) | (go_at_call 27; refine (HRU.out w2).mono ?_; rintro e w3 ⟨rfl, hb3⟩))
      go_ret
      exact ⟨rfl, below_then HB0.out (below_then (below_then hb1 hb2) hb3)⟩
    | true =>
      rw [hru] at hrule
      have HRU : Aside0 _ := ⟨hrule⟩
      obtain ⟨hpq, -⟩ := pq_of_rule hru
      simp only [Bool.and_eq_true, Bool.not_eq_true'] at hg
      obtain ⟨hheavy, hok⟩ := hg
      have hl12 := heavy_len hheavy
      obtain ⟨hlf, htr, hlaw⟩ := Dov.trace_law (l := l) p q (allGood_ok hok) (by omega)
      have hrun : ∀ W, Below w.heap.size w W → Calls Tryd.prog 28 #[.agg #[.int .i64 p, .int .i64 q], .slice A l.length c] W fun e w' => Below W.heap.size W w' ∧ ∃ v, e = .returned (.tuple #[doutVal v (Dov.run l p q), .int .i64 0]) ∧ DOutAt w' W.heap.size v (Dov.run l p q) :=
        fun W hW => dovRun_any p q A b off c l W (R.below hW) (hT.below hW) hok (by omega) hpq hru
      have HRUN : Aside0 _ := ⟨hrun⟩
      have HLAW := hide hlaw
      have HLF := hide hlf
      have HTR := hide htr
      have HR : Aside0 _ := ⟨R⟩
      have HT : Aside0 _ := ⟨hT⟩
      have HOK := hide hok
      have htl : (Dov.run l p q).tr.length ≤ 10000 := by
        have : (decide ((Dov.run l p q).tr.length ≤ 10000) && traceGo l 0 (List.replicate l.length 0) (Dov.run l p q).tr) = true := htr
        simp only [Bool.and_eq_true, decide_eq_true_eq] at this
        exact this.1
      obtain ⟨s, hs⟩ : ∃ s, s = Dov.run l p q := ⟨_, rfl⟩
      rw [← hs] at HRUN HLAW HLF HTR htl
      obtain ⟨n, hn'⟩ : ∃ n, n = l.length := ⟨_, rfl⟩
      have HN := hide hn'
      rw [← hn'] at HG HRUN hl12 hn ⊢
      clear hs hn' hgood hrun hlaw hlf htr R hT hok hheavy hrule hru
      go_enter Tryd.func5, Tryd.ntmps5
      go_wp2_with (first | (go_at_call 25; rw [← HW0.out]; refine HAW.out.mono ?_; rintro e w1 ⟨rfl, hb1⟩) | (go_at_call 26; refine (HG.out w1 (below_then HB0.out hb1)).mono ?_; rintro e w2 ⟨rfl, hb2⟩; obtain ⟨c0, c1⟩ := HRC.out w2 (below_then hb1 hb2)) | (go_at_call 27; refine (HRU.out w2).mono ?_; rintro e wa ⟨rfl, hba⟩; have hba3 := below_then (below_then hb1 hb2) hba; clear c0 c1; obtain ⟨c0, c1⟩ := HRC.out wa hba3) | (go_at_call 28; refine (HRUN.out wa (below_then HB0.out hba3)).mono ?_; rintro e w3 ⟨hb3, v, rfl, hO⟩; have HO : Aside0 _ := ⟨hO⟩; have HB3 : Aside0 _ := ⟨below_then HB0.out (below_then hba3 hb3)⟩; unfold doutVal; rw [HLF.out, ← HN.out]; clear hO hb3))
      obtain ⟨W4, hW4⟩ : ∃ W4, W4 = w3.alloc (.cells #[.slice v.Atr s.tr.length v.ctr, .slice (some ⟨v.bfa, 0, none⟩) n v.cfa, .slice v.Aal s.al.length v.cal] 48 (0, 0)) := ⟨_, rfl⟩
      have hb34 : Below w3.heap.size w3 W4 := by rw [hW4]; exact below_alloc (Below.refl _ w3) _
      have o0 : W4.cell? ⟨w3.heap.size, 0, none⟩ = some (.slice v.Atr s.tr.length v.ctr) := by rw [hW4]; simp
      have o1 : W4.cell? ⟨w3.heap.size, 1, none⟩ = some (.slice (some ⟨v.bfa, 0, none⟩) n v.cfa) := by rw [hW4]; simp
      have hos : w3.heap.size < W4.heap.size := by rw [hW4]; simp
      rw [← hW4]
      have hb4 := below_then HB3.out hb34
      have hR4 := HR.out.below hb4
      have hT4 := HT.out.below hb4
      have hfa := own_below HO.out.fa hb34
      rw [HLF.out] at hfa
      obtain ⟨bt, hti⟩ := rdi_own (own_below HO.out.tr hb34) (by omega)
      have hgood := traceGood_any A b off c l v.Atr bt 0 v.ctr s.tr W4 hR4 hti hT4 HOK.out HTR.out
      rw [← HN.out] at hgood
      have hdone : ∀ (k : Nat), k < l.length → ∀ W, Below W4.heap.size W4 W → Calls Tryd.prog 18 #[.slice A n c, .slice v.Atr s.tr.length v.ctr, .int .i64 k] W fun e w' => e = .returned (.tuple #[.int .i64 (doneAt l s.tr k).1, .bool (doneAt l s.tr k).2]) ∧ Below W.heap.size W w' := fun k hk W hW => by
        have := doneAt_any A b off c l v.Atr bt 0 v.ctr s.tr k W (hR4.below hW) (hti.below hW) (hT4.below hW) HOK.out hk
        rw [← HN.out] at this
        exact this
      have HGOOD : Aside0 _ := ⟨hgood⟩
      have HDONE : Aside0 _ := ⟨hdone⟩
      have HR4 : Aside0 _ := ⟨hR4⟩
      have HFA : Aside0 _ := ⟨hfa⟩
      have HB4 : Aside0 _ := ⟨hb4⟩
      generalize w3.heap.size = ob at o0 o1 hos ⊢
      clear hgood hdone hR4 hT4 hfa hti hb34 hW4 hb4 hb1 hb2 hba hba3 HRUN HG HRC HRU c0 c1
      generalize s.tr.length = mt at *
      go_at_call 17
      refine HGOOD.out.mono ?_
      rintro e w5 ⟨rfl, hb5⟩
      have p0 := (hb5.cell (p := ⟨ob, 0, none⟩) hos).trans o0
      have p1 := (hb5.cell (p := ⟨ob, 1, none⟩) hos).trans o1
      have hos5 := Nat.lt_of_lt_of_le hos hb5.size
      have HB5 : Aside0 _ := ⟨hb5⟩
      clear o0 o1 hb5
      go_wp2
      go_loopw [7, 8, 9, 10] (fun q _ _ _ wr => ∃ k : Nat, k ≤ n ∧ q = .int .i64 k ∧ Below w5.heap.size w5 wr) (fun q _ _ _ _ => n - (intOf q).toNat)
      case atStart => exact ⟨0, by omega, rfl, Below.refl _ _⟩
      case round =>
        obtain ⟨k, hk, rfl, hb⟩ := hrel
        by_cases hlt : k < n
        · have hkl : k < l.length := by rw [← HN.out]; exact hlt
          have hAA := HR.out.addr (by omega)
          subst hAA
          have hb4r := below_then HB5.out hb
          have q0 := (hb.cell (p := ⟨ob, 0, none⟩) hos5).trans p0
          have q1 := (hb.cell (p := ⟨ob, 1, none⟩) hos5).trans p1
          have hosr := Nat.lt_of_lt_of_le hos5 hb.size
          obtain ⟨g0, g1⟩ := own_fate (own_below HFA.out hb4r) k hkl
          have hlaw := HLAW.out k hkl
          have hrows : ∀ W, Below wr.heap.size wr W → Row W b (off + k * 8) (Rob.jb l k) := fun W hW => (HR4.out.below (below_then hb4r hW)).row k hkl
          have hdone := fun W (hW : Below wr.heap.size wr W) => HDONE.out k hkl W (below_then hb4r hW)
          have hkz : (k : Int) < (n : Int) := by omega
          have HBR : Aside0 _ := ⟨hb⟩
          have HROWS : Aside0 _ := ⟨hrows⟩
          clear hrows hb hb4r p0 p1
          generalize s.fa.getD k (0, 0) = F at g0 g1 hlaw
          obtain ⟨kf, af⟩ := F
          simp only at g0 g1 hlaw
          generalize Rob.jb l k = j at *
          generalize doneAt l s.tr k = D at hdone hlaw
          obtain ⟨at_, dn⟩ := D
          simp only at hdone hlaw
          have HDN : Aside0 _ := ⟨hdone⟩
          clear hdone
          obtain ⟨W6, hW6⟩ : ∃ W6, W6 = wr.alloc (.cells #[.int .i64 kf, .int .i64 af] 34 (0, 0)) := ⟨_, rfl⟩
          have hb6 : Below wr.heap.size wr W6 := by rw [hW6]; exact below_alloc (Below.refl _ wr) _
          have e0 : W6.cell? ⟨wr.heap.size, 0, none⟩ = some (.int .i64 kf) := by rw [hW6]; simp
          have e1 : W6.cell? ⟨wr.heap.size, 1, none⟩ = some (.int .i64 af) := by rw [hW6]; simp
          have hbx6 : wr.heap.size < W6.heap.size := by rw [hW6]; simp
          have HW6 := hide hW6
          have HB6 : Aside0 _ := ⟨hb6⟩
          clear hb6 hW6
          rcases hlaw with ⟨rfl, hru, hd, hdl⟩ | ⟨rfl, hru, hd, hdl⟩ | ⟨hkd, hd⟩
          · simp only [Prod.mk.injEq] at hd
            obtain ⟨rfl, rfl⟩ := hd
            have hrd : decide (j.act ≤ j.bud) = true := hru
            have hra : j.act ≤ j.bud := of_decide_eq_true hrd
            have hn1 : ¬ (j.dl < at_) := by omega
            have hn2 : decide (j.dl < at_) = false := decide_eq_false hn1
            clear hru
            go_wp2_with (first | (go_at_call 18; rw [← HW6.out]; refine (HDN.out W6 HB6.out).mono ?_; rintro e w7 ⟨rfl, hb7⟩; have x0 := (hb7.cell (p := ⟨wr.heap.size, 0, none⟩) hbx6).trans e0; have x1 := (hb7.cell (p := ⟨wr.heap.size, 1, none⟩) hbx6).trans e1; have hx7 := Nat.lt_of_lt_of_le hbx6 hb7.size; obtain ⟨j0, j1, j2, j3, j4, j5, j6, j7⟩ := HROWS.out w7 (below_then HB6.out hb7); have HB7 : Aside0 _ := ⟨below_then HB6.out hb7⟩; clear hb7) | (go_at_call 19; refine (runs_any _ _ _ _ _ _ _ _ _).mono ?_; rintro e w8 ⟨rfl, hb8⟩; have HB8 : Aside0 _ := ⟨below_then HB7.out hb8⟩; clear hb8))
            go_roundw
            case rel => exact ⟨k + 1, by omega, by go_num, below_then HBR.out HB8.out⟩
            case measure => simp [intOf]; omega
          · simp only [Prod.mk.injEq] at hd
            obtain ⟨rfl, rfl⟩ := hd
            have hrd : decide (j.act ≤ j.bud) = false := hru
            have hra : ¬ (j.act ≤ j.bud) := of_decide_eq_false hrd
            clear hru
            go_wp2_with (first | (go_at_call 18; rw [← HW6.out]; refine (HDN.out W6 HB6.out).mono ?_; rintro e w7 ⟨rfl, hb7⟩; have x0 := (hb7.cell (p := ⟨wr.heap.size, 0, none⟩) hbx6).trans e0; have x1 := (hb7.cell (p := ⟨wr.heap.size, 1, none⟩) hbx6).trans e1; have hx7 := Nat.lt_of_lt_of_le hbx6 hb7.size; obtain ⟨j0, j1, j2, j3, j4, j5, j6, j7⟩ := HROWS.out w7 (below_then HB6.out hb7); have HB7 : Aside0 _ := ⟨below_then HB6.out hb7⟩; clear hb7) | (go_at_call 19; refine (runs_any _ _ _ _ _ _ _ _ _).mono ?_; rintro e w8 ⟨rfl, hb8⟩; have HB8 : Aside0 _ := ⟨below_then HB7.out hb8⟩; clear hb8))
            go_roundw
            case rel => exact ⟨k + 1, by omega, by go_num, below_then HBR.out HB8.out⟩
            case measure => simp [intOf]; omega
          · subst hd
            rcases hkd with rfl | rfl
            all_goals
              go_wp2_with (first | (go_at_call 18; rw [← HW6.out]; refine (HDN.out W6 HB6.out).mono ?_; rintro e w7 ⟨rfl, hb7⟩; have x0 := (hb7.cell (p := ⟨wr.heap.size, 0, none⟩) hbx6).trans e0; have x1 := (hb7.cell (p := ⟨wr.heap.size, 1, none⟩) hbx6).trans e1; have hx7 := Nat.lt_of_lt_of_le hbx6 hb7.size; have HB7 : Aside0 _ := ⟨below_then HB6.out hb7⟩; clear hb7))
              go_roundw
              case rel => exact ⟨k + 1, by omega, by go_num, below_then HBR.out HB7.out⟩
              case measure => simp [intOf]; omega
        · go_wp2
          go_ret
          exact ⟨rfl, below_then (below_then HB4.out HB5.out) hb⟩
end Go.Proofs.YtjgegnjclmkpeaaDoor
