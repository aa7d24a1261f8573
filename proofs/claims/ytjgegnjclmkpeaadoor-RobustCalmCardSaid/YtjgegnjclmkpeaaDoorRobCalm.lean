/- The statement RobustCalm: the walk. -/
import Derived.Test.YtjgegnjclmkpeaaDoorRobHard
import Derived.Test.YtjgegnjclmkpeaaDoorMeets
import Derived.Test.YtjgegnjclmkpeaaDoorRobCalmPlain
import Derived.Deep.RegionHeld3
set_option linter.unusedVariables false
set_option linter.unusedSimpArgs false
namespace Go.Proofs.YtjgegnjclmkpeaaDoor
open Go.RowKit Go.Sort Go.Proofs

set_option maxHeartbeats 4000000 in
set_option maxRecDepth 100000 in
theorem robustCalm_any (A : Option Addr) (b off c : Nat) (l : List Job) (w : World) (R : RdJobs w A b off l) (hT : Tabs w) :
    Calls Tryd.prog 4 #[.slice A l.length c] w fun e w' => e = .returned (.bool true) ∧ Below w.heap.size w w' := by
  have hn := R.len
  have HAW : Aside0 _ := ⟨awake_any w hT⟩
  have hgood : ∀ W, Below w.heap.size w W → Calls Tryd.prog 15 #[.slice A l.length c] W fun e w' => e = .returned (.bool (!(heavyB 12 300 l) && allOk l)) ∧ Below W.heap.size W w' := fun W hW => good20_any A b off c l W (R.below hW) (hT.below hW)
  cases hg : (!(heavyB 12 300 l) && allOk l) with
  | false =>
    rw [hg] at hgood
    have HG : Aside0 _ := ⟨hgood⟩
    clear hg hgood R hT
    generalize l.length = n at *
    go_enter Tryd.func4, Tryd.ntmps4
    go_wp2_with (first | (go_at_call 14; refine HAW.out.mono ?_; rintro e w1 ⟨rfl, hb1⟩) | (go_at_call 15; refine (HG.out w1 hb1).mono ?_; rintro e w2 ⟨rfl, hb2⟩))
    go_ret
    exact ⟨rfl, below_then hb1 hb2⟩
  | true =>
    rw [hg] at hgood
    have HG : Aside0 _ := ⟨hgood⟩
    simp only [Bool.and_eq_true, Bool.not_eq_true'] at hg
    obtain ⟨hheavy, hok⟩ := hg
    have hl12 := heavy_len hheavy
    have hmeets : ∀ W, Below w.heap.size w W → _ := fun W hW => meets_any (c0 := c) W (R.below hW) (hT.below hW) hok (by omega)
    have HMEETS : Aside0 _ := ⟨hmeets⟩
    have hcalm := Rob.calm_law (l := l) (allGood_ok hok) (by omega)
    have HCALM := hide hcalm
    have hrun : ∀ W, Below w.heap.size w W → Calls Tryd.prog 16 #[.slice A l.length c] W fun e w' => Below W.heap.size W w' ∧ ∃ v, e = .returned (.tuple #[outVal v (Rob.run l), .int .i64 0]) ∧ OutAt w' W.heap.size v (Rob.run l) :=
      fun W hW => robRun_any A b off c l W (R.below hW) (hT.below hW) hok (by omega)
    have HRUN : Aside0 _ := ⟨hrun⟩
    have hE0 := endOf_nonneg l
    have hE1 : endOf l ≤ 10000 := endOf_le (by omega) (fun j hj => (allGood_ok hok j hj).dl1)
    obtain ⟨E, hEE⟩ : ∃ E : Nat, endOf l = E := ⟨(endOf l).toNat, by omega⟩
    have hend : ∀ W, Below w.heap.size w W → Calls Tryd.prog 24 #[.slice A l.length c] W fun e w' => e = .returned (.int .i64 E) ∧ Below W.heap.size W w' := fun W hW => by
      have := end_any A b off c l W (R.below hW) (hT.below hW) hok
      rw [hEE] at this
      exact this
    have HEND : Aside0 _ := ⟨hend⟩
    have hedf : ∀ W, Below w.heap.size w W → _ := fun W hW => edfRun_any (c0 := c) W (R.below hW) (hT.below hW) hok (by omega) E (by omega)
    have HEDF : Aside0 _ := ⟨hedf⟩
    have htl : ((Rob.edfAt l Job.work E).2).length = E := (Rob.einv_at l Job.work E).tlen
    have HTL := hide htl
    obtain ⟨s, hs⟩ : ∃ s, s = Rob.run l := ⟨_, rfl⟩
    rw [hEE, Int.toNat_natCast, ← hs] at HCALM
    rw [← hs] at HRUN
    obtain ⟨n, hn'⟩ : ∃ n, n = l.length := ⟨_, rfl⟩
    have HN := hide hn'
    rw [← hn'] at HG HRUN HMEETS HEND HEDF hl12 hn ⊢
    have HE1 : Hid (E ≤ 10000) := hide (by omega)
    clear hs hn' hgood hmeets hcalm hrun hend hedf R hT hok hheavy hEE hE0 hE1 htl
    go_enter Tryd.func4, Tryd.ntmps4
    go_wp2_with (first | (go_at_call 14; refine HAW.out.mono ?_; rintro e w1 ⟨rfl, hb1⟩) | (go_at_call 15; refine (HG.out w1 hb1).mono ?_; rintro e w2 ⟨rfl, hb2⟩))
    go_at_call 21
    refine (HMEETS.out w2 (below_then hb1 hb2)).mono ?_
    rintro e w3 ⟨hb3, r, rfl, hr⟩
    have hb13 := below_then (below_then hb1 hb2) hb3
    clear hb1 hb2 hb3
    cases r with
    | false =>
      clear hr
      go_wp2
      go_ret
      exact ⟨rfl, hb13⟩
    | true =>
      obtain ⟨hsh, hag, htr, hlf, hkinds⟩ := HCALM.out (hr rfl)
      have HKINDS := hide hkinds
      clear hr hkinds HCALM HMEETS
      generalize (Rob.edfAt l Job.work E).2 = T at *
      go_wp2_with (go_at_call 16; refine (HRUN.out w3 hb13).mono ?_; rintro e w4 ⟨hb4, v, rfl, hO⟩; have HO : Aside0 _ := ⟨hO⟩; have HB4 : Aside0 _ := ⟨below_then hb13 hb4⟩; unfold outVal; rw [hlf, ← HN.out, hsh, hag, htr, HTL.out]; simp only [List.length_nil]; clear hO hb4)
      obtain ⟨W5, hW5⟩ : ∃ W5, W5 = w4.alloc (.cells #[.slice v.Atr E v.ctr, .slice (some ⟨v.bfa, 0, none⟩) n v.cfa, .slice v.Ash 0 v.csh, .slice v.Aag 0 v.cag] 28 (0, 0)) := ⟨_, rfl⟩
      have hb45 : Below w4.heap.size w4 W5 := by rw [hW5]; exact below_alloc (Below.refl _ w4) _
      have o0 : W5.cell? ⟨w4.heap.size, 0, none⟩ = some (.slice v.Atr E v.ctr) := by rw [hW5]; simp
      have o1 : W5.cell? ⟨w4.heap.size, 1, none⟩ = some (.slice (some ⟨v.bfa, 0, none⟩) n v.cfa) := by rw [hW5]; simp
      have o2 : W5.cell? ⟨w4.heap.size, 2, none⟩ = some (.slice v.Ash 0 v.csh) := by rw [hW5]; simp
      have o3 : W5.cell? ⟨w4.heap.size, 3, none⟩ = some (.slice v.Aag 0 v.cag) := by rw [hW5]; simp
      have hos : w4.heap.size < W5.heap.size := by rw [hW5]; simp
      rw [← hW5]
      have hb5 := below_then HB4.out hb45
      have htr5 : W5.ownsRow w3.heap.size 3 1 (.slice v.Atr T.length v.ctr) T.length (ints T) := by
        have := own_below HO.out.tr hb45
        rw [htr] at this; exact this
      have hfa := own_below HO.out.fa hb45
      rw [hlf] at hfa
      obtain ⟨bt, hti⟩ := rdi_own htr5 (by rw [HTL.out]; have := HE1.out; omega)
      have HTI : Aside0 _ := ⟨hti⟩
      have HFA : Aside0 _ := ⟨hfa⟩
      have HB5 : Aside0 _ := ⟨hb5⟩
      have hends : ∀ W, Below W5.heap.size W5 W → _ := fun W hW => HEND.out W (below_then hb5 hW)
      have hedfs : ∀ W, Below W5.heap.size W5 W → _ := fun W hW => HEDF.out W (below_then hb5 hW)
      have HENDS : Aside0 _ := ⟨hends⟩
      have HEDFS : Aside0 _ := ⟨hedfs⟩
      have hints : ∀ (W W' : World) (A' : Option Addr) (c' : Nat), Below W5.heap.size W5 W → W'.ownsRow W.heap.size 3 1 (.slice A' E c') E (ints T) → Below W.heap.size W W' → ∀ W2, Below W'.heap.size W' W2 → Calls Tryd.prog 22 #[.slice v.Atr E v.ctr, .slice A' E c'] W2 fun e w' => e = .returned (.bool true) ∧ Below W2.heap.size W2 w' := fun W W' A' c' hW ho hb W2 hW2 => by
        have ho' := own_below ho hW2
        rw [← HTL.out] at ho'
        obtain ⟨bt', hti'⟩ := rdi_own ho' (by rw [HTL.out]; have := HE1.out; omega)
        have := ints_any v.Atr bt 0 v.ctr A' bt' 0 c' _ W2 (HTI.out.below (below_then (below_then hW hb) hW2)) hti'
        rw [HTL.out] at this
        exact this
      have HINTS : Aside0 _ := ⟨hints⟩
      have hkeep : ∀ W W' : World, (Below W5.heap.size W5 W ∧ W.cell? ⟨w4.heap.size, 0, none⟩ = some (.slice v.Atr E v.ctr) ∧ W.cell? ⟨w4.heap.size, 1, none⟩ = some (.slice (some ⟨v.bfa, 0, none⟩) n v.cfa) ∧ W.cell? ⟨w4.heap.size, 2, none⟩ = some (.slice v.Ash 0 v.csh) ∧ W.cell? ⟨w4.heap.size, 3, none⟩ = some (.slice v.Aag 0 v.cag)) → Below W.heap.size W W' →
          (Below W5.heap.size W5 W' ∧ W'.cell? ⟨w4.heap.size, 0, none⟩ = some (.slice v.Atr E v.ctr) ∧ W'.cell? ⟨w4.heap.size, 1, none⟩ = some (.slice (some ⟨v.bfa, 0, none⟩) n v.cfa) ∧ W'.cell? ⟨w4.heap.size, 2, none⟩ = some (.slice v.Ash 0 v.csh) ∧ W'.cell? ⟨w4.heap.size, 3, none⟩ = some (.slice v.Aag 0 v.cag)) := by
        rintro W W' ⟨a, c0, c1, c2, c3⟩ hb
        have hlt := Nat.lt_of_lt_of_le hos a.size
        exact ⟨below_then a hb, (hb.cell (p := ⟨w4.heap.size, 0, none⟩) hlt).trans c0, (hb.cell (p := ⟨w4.heap.size, 1, none⟩) hlt).trans c1, (hb.cell (p := ⟨w4.heap.size, 2, none⟩) hlt).trans c2, (hb.cell (p := ⟨w4.heap.size, 3, none⟩) hlt).trans c3⟩
      have HKEEP : Aside0 _ := ⟨hkeep⟩
      clear hkeep
      generalize w4.heap.size = ob at o0 o1 o2 o3 hos HKEEP ⊢
      clear hb45 hti hfa hb5 hends hedfs hints hW5 hb13 hsh hag htr hlf htr5 HRUN HG HEND HEDF
      have mixed : Tryd.prog.follows .mixedOrders = true := by kernel_rfl
      go_region_held3 (fun w' => Below W5.heap.size W5 w' ∧ w'.cell? ⟨ob, 0, none⟩ = some (.slice v.Atr E v.ctr) ∧ w'.cell? ⟨ob, 1, none⟩ = some (.slice (some ⟨v.bfa, 0, none⟩) n v.cfa) ∧ w'.cell? ⟨ob, 2, none⟩ = some (.slice v.Ash 0 v.csh) ∧ w'.cell? ⟨ob, 3, none⟩ = some (.slice v.Aag 0 v.cag))
        (first | exact ⟨(Below.refl _ W5).drew, o0, o1, o2, o3⟩ | exact HKEEP.out _ _ (by assumption) hb8 | exact HKEEP.out _ _ (by assumption) hb7 | exact HKEEP.out _ _ (by assumption) hb6)
        (first | (go_at_call 24; refine (HENDS.out _ (by go_split_ands; assumption)).mono ?_; rintro e w6 ⟨rfl, hb6⟩) | (go_at_call 23; have H6 : Aside0 (Below W5.heap.size W5 w6) := ⟨by go_split_ands; assumption⟩; refine (HEDFS.out w6 H6.out).mono ?_; rintro e w7 ⟨hb7, A', c', rfl, ho7⟩) | (go_at_call 22; refine (HINTS.out w6 w7 A' c' H6.out ho7 hb7 w7 (Below.refl _ _)).mono ?_; rintro e w8 ⟨rfl, hb8⟩))
      go_wp2_with fail
      have hS8 : Below W5.heap.size W5 w8 ∧ w8.cell? ⟨ob, 0, none⟩ = some (.slice v.Atr E v.ctr) ∧ w8.cell? ⟨ob, 1, none⟩ = some (.slice (some ⟨v.bfa, 0, none⟩) n v.cfa) ∧ w8.cell? ⟨ob, 2, none⟩ = some (.slice v.Ash 0 v.csh) ∧ w8.cell? ⟨ob, 3, none⟩ = some (.slice v.Aag 0 v.cag) := by assumption
      obtain ⟨hb58, p0, p1, p2, p3⟩ := hS8
      have hos8 := Nat.lt_of_lt_of_le hos hb58.size
      have HFA8 : Aside0 _ := ⟨own_below HFA.out hb58⟩
      have HB8 : Aside0 _ := ⟨below_then HB5.out hb58⟩
      clear o0 o1 o2 o3 hos hb6 hb7 hb8 ho7 hb58 p0 p2 p3 H6 HINTS HKEEP HENDS HEDFS HTI HFA HO
      go_loopw [5] (fun q wr => ∃ k : Nat, k ≤ n ∧ q = .int .i64 k ∧ Below w8.heap.size w8 wr) (fun q _ => n - (intOf q).toNat)
      case atStart => exact ⟨0, by omega, rfl, Below.refl _ _⟩
      case round =>
        obtain ⟨k, hk, rfl, hb⟩ := hrel
        by_cases hlt : k < n
        · have hkl : k < l.length := by rw [← HN.out]; exact hlt
          have q1 := (hb.cell (p := ⟨ob, 1, none⟩) hos8).trans p1
          obtain ⟨g0, g1⟩ := own_fate (own_below HFA8.out hb) k hkl
          have hkind := HKINDS.out k hkl
          have hkz : (k : Int) < (n : Int) := by omega
          generalize s.fa.getD k (0, 0) = F at g0 g1 hkind
          obtain ⟨kf, af⟩ := F
          simp only at g0 g1 hkind
          clear p1
          rcases hkind with rfl | rfl
          · go_wp2
            go_roundw
            case rel => exact ⟨k + 1, by omega, by go_num, hb⟩
            case measure => simp [intOf]; omega
          · go_wp2
            go_roundw
            case rel => exact ⟨k + 1, by omega, by go_num, hb⟩
            case measure => simp [intOf]; omega
        · go_wp2
          go_ret
          exact ⟨rfl, below_then HB8.out hb⟩
end Go.Proofs.YtjgegnjclmkpeaaDoor
