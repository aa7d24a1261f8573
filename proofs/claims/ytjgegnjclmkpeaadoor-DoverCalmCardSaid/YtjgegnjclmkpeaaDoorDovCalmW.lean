/- The statement DoverCalm: the walk. -/
import Derived.Test.YtjgegnjclmkpeaaDoorDovTrace
import Derived.Test.YtjgegnjclmkpeaaDoorEdfHi
import Derived.Test.YtjgegnjclmkpeaaDoorDovCalm
import Derived.Deep.RegionHeld3
set_option linter.unusedVariables false
set_option linter.unusedSimpArgs false
namespace Go.Proofs.YtjgegnjclmkpeaaDoor
open Go.RowKit Go.Sort Go.Proofs

set_option maxHeartbeats 4000000 in
set_option maxRecDepth 100000 in
theorem doverCalm_any (p q : Int) (A : Option Addr) (b off c : Nat) (l : List Job) (w : World) (R : RdJobs w A b off l) (hT : Tabs w) :
    Calls Tryd.prog 6 #[.agg #[.int .i64 p, .int .i64 q], .slice A l.length c] w fun e w' => e = .returned (.bool true) ∧ Below w.heap.size w w' := by
  have mixed : Tryd.prog.follows .mixedOrders = true := by kernel_rfl
  have hn := R.len
  have hgood : ∀ W, Below w.heap.size w W → Calls Tryd.prog 26 #[.slice A l.length c] W fun e w' => e = .returned (.bool (!(heavyB 12 300 l) && allOk l)) ∧ Below W.heap.size W w' := fun W hW => good19_any A b off c l W (R.below hW) (hT.below hW)
  have hrule : ∀ W, Calls Tryd.prog 27 #[.agg #[.int .i64 p, .int .i64 q]] W fun e w' => e = .returned (.bool (ruleB p q)) ∧ Below W.heap.size W w' := fun W => rule_any p q W
  obtain ⟨W0, hW0⟩ : ∃ W0, W0 = w.alloc (.cells #[.int .i64 p, .int .i64 q] 45 (0, 0)) := ⟨_, rfl⟩
  have hb0 : Below w.heap.size w W0 := by rw [hW0]; exact below_alloc (Below.refl _ w) _
  have hrc : ∀ W, Below W0.heap.size W0 W → W.cell? ⟨w.heap.size, 0, none⟩ = some (.int .i64 p) ∧ W.cell? ⟨w.heap.size, 1, none⟩ = some (.int .i64 q) := fun W hW => by
    have h0 : W0.cell? ⟨w.heap.size, 0, none⟩ = some (.int .i64 p) := by rw [hW0]; simp
    have h1 : W0.cell? ⟨w.heap.size, 1, none⟩ = some (.int .i64 q) := by rw [hW0]; simp
    have hl : w.heap.size < W0.heap.size := by rw [hW0]; simp
    exact ⟨(hW.cell (p := ⟨w.heap.size, 0, none⟩) hl).trans h0, (hW.cell (p := ⟨w.heap.size, 1, none⟩) hl).trans h1⟩
  have HAW : Aside0 _ := ⟨awake19_any W0 (hT.below hb0)⟩
  have HB0 : Aside0 _ := ⟨hb0⟩
  have HRC : Aside0 _ := ⟨hrc⟩
  have HW0 := hide hW0
  clear hb0 hrc hW0
  cases hg : (!(heavyB 12 300 l) && allOk l) with
  | false =>
    rw [hg] at hgood
    have HG : Aside0 _ := ⟨hgood⟩
    clear hg hgood R hT
    generalize l.length = n at *
    go_enter Tryd.func6, Tryd.ntmps6
    go_wp2_with (first | (go_at_call 25; rw [← HW0.out]; refine HAW.out.mono ?_; rintro e w1 ⟨rfl, hb1⟩) | (go_at_call 26; refine (HG.out w1 (below_then HB0.out hb1)).mono ?_; rintro e w2 ⟨rfl, hb2⟩))
    go_ret
    exact ⟨rfl, below_then HB0.out (below_then hb1 hb2)⟩
  | true =>
    rw [hg] at hgood
    have HG : Aside0 _ := ⟨hgood⟩
    cases hru : ruleB p q with
    | false =>
      rw [hru] at hrule
      have HRU : Aside0 _ := ⟨hrule⟩
      clear hg hgood R hT hru hrule
      generalize l.length = n at *
      go_enter Tryd.func6, Tryd.ntmps6
      go_wp2_with (first | (go_at_call 25; rw [← HW0.out]; refine HAW.out.mono ?_; rintro e w1 ⟨rfl, hb1⟩) | (go_at_call 26; refine (HG.out w1 (below_then HB0.out hb1)).mono ?_; rintro e w2 ⟨rfl, hb2⟩; obtain ⟨c0, c1⟩ := HRC.out w2 (below_then hb1 hb2)) | (go_at_call 27; refine (HRU.out w2).mono ?_; rintro e w3 ⟨rfl, hb3⟩))
      go_ret
      exact ⟨rfl, below_then HB0.out (below_then (below_then hb1 hb2) hb3)⟩
    | true =>
      rw [hru] at hrule
      have HRU : Aside0 _ := ⟨hrule⟩
      obtain ⟨hpq, -⟩ := pq_of_rule hru
      simp only [Bool.and_eq_true, Bool.not_eq_true'] at hg
      obtain ⟨hheavy, hok⟩ := hg
      have hl12 := heavy_len hheavy
      have hmeets : ∀ W, Below w.heap.size w W → _ := fun W hW => meets_any (c0 := c) W (R.below hW) (hT.below hW) hok (by omega)
      have HMEETS : Aside0 _ := ⟨hmeets⟩
      have hcalm := Dov.calm_law (l := l) p q (allGood_ok hok) (by omega)
      have HCALM := hide hcalm
      have hrun : ∀ W, Below w.heap.size w W → Calls Tryd.prog 28 #[.agg #[.int .i64 p, .int .i64 q], .slice A l.length c] W fun e w' => Below W.heap.size W w' ∧ ∃ v, e = .returned (.tuple #[doutVal v (Dov.run l p q), .int .i64 0]) ∧ DOutAt w' W.heap.size v (Dov.run l p q) :=
        fun W hW => dovRun_any p q A b off c l W (R.below hW) (hT.below hW) hok (by omega) hpq hru
      have HRUN : Aside0 _ := ⟨hrun⟩
      have hE0 := endOf_nonneg l
      have hE1 : endOf l ≤ 10000 := endOf_le (by omega) (fun j hj => (allGood_ok hok j hj).dl1)
      obtain ⟨E, hEE⟩ : ∃ E : Nat, endOf l = E := ⟨(endOf l).toNat, by omega⟩
      have hend : ∀ W, Below w.heap.size w W → Calls Tryd.prog 24 #[.slice A l.length c] W fun e w' => e = .returned (.int .i64 E) ∧ Below W.heap.size W w' := fun W hW => by
        have := end_any A b off c l W (R.below hW) (hT.below hW) hok
        rw [hEE] at this
        exact this
      have HEND : Aside0 _ := ⟨hend⟩
      have hedf : ∀ W, Below w.heap.size w W → _ := fun W hW => edfRun_any (c0 := c) W (R.below hW) (hT.below hW) hok (by omega) E (by omega)
      have HEDF : Aside0 _ := ⟨hedf⟩
      have htl : ((Rob.edfAt l Job.work E).2).length = E := (Rob.einv_at l Job.work E).tlen
      have HTL := hide htl
      have HR : Aside0 _ := ⟨R⟩
      obtain ⟨s, hs⟩ : ∃ s, s = Dov.run l p q := ⟨_, rfl⟩
      rw [hEE, Int.toNat_natCast, ← hs] at HCALM
      rw [← hs] at HRUN
      obtain ⟨n, hn'⟩ : ∃ n, n = l.length := ⟨_, rfl⟩
      have HN := hide hn'
      rw [← hn'] at HG HRUN HMEETS HEND HEDF hl12 hn ⊢
      have HE1 : Hid (E ≤ 10000) := hide (by omega)
      clear hs hn' hgood hmeets hcalm hrun hend hedf R hT hok hheavy hrule hru hEE hE0 hE1 htl
      go_enter Tryd.func6, Tryd.ntmps6
      go_wp2_with (first | (go_at_call 25; rw [← HW0.out]; refine HAW.out.mono ?_; rintro e w1 ⟨rfl, hb1⟩) | (go_at_call 26; refine (HG.out w1 (below_then HB0.out hb1)).mono ?_; rintro e w2 ⟨rfl, hb2⟩; obtain ⟨c0, c1⟩ := HRC.out w2 (below_then hb1 hb2)) | (go_at_call 27; refine (HRU.out w2).mono ?_; rintro e wa ⟨rfl, hba⟩; have hba3 := below_then (below_then hb1 hb2) hba; clear c0 c1))
      go_at_call 21
      refine (HMEETS.out wa (below_then HB0.out hba3)).mono ?_
      rintro e w3 ⟨hb3, r, rfl, hr⟩
      have hb03 := below_then hba3 hb3
      obtain ⟨c0, c1⟩ := HRC.out w3 hb03
      have hb13 := below_then HB0.out hb03
      clear hb1 hb2 hb3 hba hba3
      cases r with
      | false =>
        clear hr
        go_wp2
        go_ret
        exact ⟨rfl, hb13⟩
      | true =>
        obtain ⟨hal, htr, hlf, hkinds⟩ := HCALM.out (hr rfl)
        have HKINDS := hide hkinds
        clear hr hkinds HCALM HMEETS
        generalize (Rob.edfAt l Job.work E).2 = T at *
        go_wp2_with (go_at_call 28; refine (HRUN.out w3 hb13).mono ?_; rintro e w4 ⟨hb4, v, rfl, hO⟩; have HO : Aside0 _ := ⟨hO⟩; have HB4 : Aside0 _ := ⟨below_then hb13 hb4⟩; unfold doutVal; rw [hlf, ← HN.out, hal, htr, HTL.out]; simp only [List.length_nil]; clear hO hb4)
        obtain ⟨W5, hW5⟩ : ∃ W5, W5 = w4.alloc (.cells #[.slice v.Atr E v.ctr, .slice (some ⟨v.bfa, 0, none⟩) n v.cfa, .slice v.Aal 0 v.cal] 48 (0, 0)) := ⟨_, rfl⟩
        have hb45 : Below w4.heap.size w4 W5 := by rw [hW5]; exact below_alloc (Below.refl _ w4) _
        have o0 : W5.cell? ⟨w4.heap.size, 0, none⟩ = some (.slice v.Atr E v.ctr) := by rw [hW5]; simp
        have o1 : W5.cell? ⟨w4.heap.size, 1, none⟩ = some (.slice (some ⟨v.bfa, 0, none⟩) n v.cfa) := by rw [hW5]; simp
        have o2 : W5.cell? ⟨w4.heap.size, 2, none⟩ = some (.slice v.Aal 0 v.cal) := by rw [hW5]; simp
        have hos : w4.heap.size < W5.heap.size := by rw [hW5]; simp
        rw [← hW5]
        have hb5 := below_then HB4.out hb45
        have htr5 : W5.ownsRow w3.heap.size 3 1 (.slice v.Atr T.length v.ctr) T.length (ints T) := by
          have := own_below HO.out.tr hb45
          rw [htr] at this; exact this
        have hfa := own_below HO.out.fa hb45
        rw [hlf] at hfa
        obtain ⟨bt, hti⟩ := rdi_own htr5 (by rw [HTL.out]; have := HE1.out; omega)
        have HTI : Aside0 _ := ⟨hti⟩
        have HFA : Aside0 _ := ⟨hfa⟩
        have HB5 : Aside0 _ := ⟨hb5⟩
        have hends : ∀ W, Below W5.heap.size W5 W → _ := fun W hW => HEND.out W (below_then hb5 hW)
        have hedfs : ∀ W, Below W5.heap.size W5 W → _ := fun W hW => HEDF.out W (below_then hb5 hW)
        have HENDS : Aside0 _ := ⟨hends⟩
        have HEDFS : Aside0 _ := ⟨hedfs⟩
        have hints : ∀ (W W' : World) (A' : Option Addr) (c' : Nat), Below W5.heap.size W5 W → W'.ownsRow W.heap.size 3 1 (.slice A' E c') E (ints T) → Below W.heap.size W W' → ∀ W2, Below W'.heap.size W' W2 → Calls Tryd.prog 29 #[.slice v.Atr E v.ctr, .slice A' E c'] W2 fun e w' => e = .returned (.bool true) ∧ Below W2.heap.size W2 w' := fun W W' A' c' hW ho hb W2 hW2 => by
          have ho' := own_below ho hW2
          rw [← HTL.out] at ho'
          obtain ⟨bt', hti'⟩ := rdi_own ho' (by rw [HTL.out]; have := HE1.out; omega)
          have := ints19_any v.Atr bt 0 v.ctr A' bt' 0 c' _ W2 (HTI.out.below (below_then (below_then hW hb) hW2)) hti'
          rw [HTL.out] at this
          exact this
        have HINTS : Aside0 _ := ⟨hints⟩
        have hkeep : ∀ W W' : World, (Below W5.heap.size W5 W ∧ W.cell? ⟨w4.heap.size, 0, none⟩ = some (.slice v.Atr E v.ctr) ∧ W.cell? ⟨w4.heap.size, 1, none⟩ = some (.slice (some ⟨v.bfa, 0, none⟩) n v.cfa) ∧ W.cell? ⟨w4.heap.size, 2, none⟩ = some (.slice v.Aal 0 v.cal)) → Below W.heap.size W W' →
            (Below W5.heap.size W5 W' ∧ W'.cell? ⟨w4.heap.size, 0, none⟩ = some (.slice v.Atr E v.ctr) ∧ W'.cell? ⟨w4.heap.size, 1, none⟩ = some (.slice (some ⟨v.bfa, 0, none⟩) n v.cfa) ∧ W'.cell? ⟨w4.heap.size, 2, none⟩ = some (.slice v.Aal 0 v.cal)) := by
          rintro W W' ⟨a, c0, c1, c2⟩ hb
          have hlt := Nat.lt_of_lt_of_le hos a.size
          exact ⟨below_then a hb, (hb.cell (p := ⟨w4.heap.size, 0, none⟩) hlt).trans c0, (hb.cell (p := ⟨w4.heap.size, 1, none⟩) hlt).trans c1, (hb.cell (p := ⟨w4.heap.size, 2, none⟩) hlt).trans c2⟩
        have HKEEP : Aside0 _ := ⟨hkeep⟩
        clear hkeep
        generalize w4.heap.size = ob at o0 o1 o2 hos HKEEP ⊢
        clear hb45 hti hfa hb5 hends hedfs hints hW5 hb13 hal htr hlf htr5 HRUN HG HEND HEDF hb03 c0 c1 HRC HRU HAW
        go_region_held3 (fun w' => Below W5.heap.size W5 w' ∧ w'.cell? ⟨ob, 0, none⟩ = some (.slice v.Atr E v.ctr) ∧ w'.cell? ⟨ob, 1, none⟩ = some (.slice (some ⟨v.bfa, 0, none⟩) n v.cfa) ∧ w'.cell? ⟨ob, 2, none⟩ = some (.slice v.Aal 0 v.cal))
          (first | exact ⟨(Below.refl _ W5).drew, o0, o1, o2⟩ | exact HKEEP.out _ _ (by assumption) hb8 | exact HKEEP.out _ _ (by assumption) hb7 | exact HKEEP.out _ _ (by assumption) hb6)
          (first | (go_at_call 24; refine (HENDS.out _ (by go_split_ands; assumption)).mono ?_; rintro e w6 ⟨rfl, hb6⟩) | (go_at_call 23; have H6 : Aside0 (Below W5.heap.size W5 w6) := ⟨by go_split_ands; assumption⟩; refine (HEDFS.out w6 H6.out).mono ?_; rintro e w7 ⟨hb7, A', c', rfl, ho7⟩) | (go_at_call 29; refine (HINTS.out w6 w7 A' c' H6.out ho7 hb7 w7 (Below.refl _ _)).mono ?_; rintro e w8 ⟨rfl, hb8⟩))
        go_wp2_with fail
        have hS8 : Below W5.heap.size W5 w8 ∧ w8.cell? ⟨ob, 0, none⟩ = some (.slice v.Atr E v.ctr) ∧ w8.cell? ⟨ob, 1, none⟩ = some (.slice (some ⟨v.bfa, 0, none⟩) n v.cfa) ∧ w8.cell? ⟨ob, 2, none⟩ = some (.slice v.Aal 0 v.cal) := by assumption
        obtain ⟨hb58, p0, p1, p2⟩ := hS8
        have hos8 := Nat.lt_of_lt_of_le hos hb58.size
        have HFA8 : Aside0 _ := ⟨own_below HFA.out hb58⟩
        have HB8 : Aside0 _ := ⟨below_then HB5.out hb58⟩
        clear o0 o1 o2 hos hb6 hb7 hb8 ho7 hb58 p0 p2 H6 HINTS HKEEP HENDS HEDFS HTI HFA HO
        go_loopw [7] (fun q wr => ∃ k : Nat, k ≤ n ∧ q = .int .i64 k ∧ Below w8.heap.size w8 wr) (fun q _ => n - (intOf q).toNat)
        case atStart => exact ⟨0, by omega, rfl, Below.refl _ _⟩
        case round =>
          obtain ⟨k, hk, rfl, hb⟩ := hrel
          by_cases hlt : k < n
          · have hkl : k < l.length := by rw [← HN.out]; exact hlt
            have hRw := HR.out.below (below_then HB8.out hb)
            have hAA := hRw.addr (by omega)
            subst hAA
            obtain ⟨-, -, j2, -, -, -, -, -⟩ := hRw.row k hkl
            have q1 := (hb.cell (p := ⟨ob, 1, none⟩) hos8).trans p1
            obtain ⟨g0, g1⟩ := own_fate (own_below HFA8.out hb) k hkl
            obtain ⟨hkind, hdl⟩ := HKINDS.out k hkl
            have hkz : (k : Int) < (n : Int) := by omega
            generalize s.fa.getD k (0, 0) = F at g0 g1 hkind hdl
            obtain ⟨kf, af⟩ := F
            simp only at g0 g1 hkind hdl
            generalize (Rob.jb l k).dl = dl at *
            have hn1 : ¬ (dl < af) := by omega
            have hn2 : decide (dl < af) = false := decide_eq_false hn1
            clear p1 hRw
            rcases hkind with rfl | rfl
            all_goals
              go_wp2_with fail
              go_quiet (fail)
              go_wp2
              go_roundw
              case rel => exact ⟨k + 1, by omega, by go_num, below_drewN hb _⟩
              case measure => simp [intOf]; omega
          · go_wp2
            go_ret
            exact ⟨rfl, below_then HB8.out hb⟩
end Go.Proofs.YtjgegnjclmkpeaaDoor
