/- The robust runner: the walk of late. -/
import Derived.Test.YtjgegnjclmkpeaaDoorRobW3
set_option linter.unusedVariables false
set_option linter.unusedSimpArgs false
namespace Go.Proofs.YtjgegnjclmkpeaaDoor
open Go.RowKit

section
variable {w0 w : World} {g : Nat} {A0 : Option Addr} {b0 o0 c0 : Nat} {l : List Job} {v : RV} {t : Int} {s : RS}
/-- What a run's walks take of the jobs and of how often they ran. -/
structure Fine (l : List Job) (t : Int) (s : RS) : Prop where
  ok : ∀ j ∈ l, j.ok = true
  ran : ∀ i, i < l.length → 0 ≤ Rob.ranAt s i ∧ Rob.ranAt s i ≤ 10000
  t0 : 0 ≤ t
  t1 : t ≤ 10000
theorem Fine.of_ran {s' : RS} (h : Fine l t s) (e : s'.ran = s.ran) : Fine l t s' := ⟨h.ok, fun i hi => by have := h.ran i hi; unfold Rob.ranAt at *; rw [e]; exact this, h.t0, h.t1⟩
theorem Fine.job (h : Fine l t s) {i : Nat} (hi : i < l.length) : (Rob.jb l i).ok = true := h.ok _ (Rob.jb_mem hi)
theorem need_in (h : Fine l t s) {i : Nat} (hi : i < l.length) : -10000 ≤ Rob.need l s i ∧ Rob.need l s i ≤ 10000 := by
  have h1 := h.ran i hi
  have h2 := Job.ok_of_good (h.job hi)
  have h3 := h2.charge0
  have h4 := h2.charge1
  unfold Rob.need; omega
set_option maxHeartbeats 2000000 in
theorem late_any (h : RAt w0 w g A0 b0 o0 c0 l v t s) (hT : Tabs w0) (F : Fine l t s) :
    Calls Tryd.prog 52 #[.pointer (some ⟨g, 0, none⟩)] w fun e w' => e = .returned (.tuple #[]) ∧ RAt w0 w' g A0 b0 o0 c0 l v t (Rob.late l t s) := by
  have hn := h.jobs.len
  have mixed : Tryd.prog.follows .mixedOrders = true := by kernel_rfl
  obtain ⟨n, hn'⟩ : ∃ n, n = l.length := ⟨_, rfl⟩
  have HN := hide hn'
  obtain ⟨h0, -, -, -, -, -, -, -⟩ := h.cells
  rw [← hn'] at hn h0
  clear hn'
  have HH : Aside0 _ := ⟨h⟩
  have FF : Aside0 _ := ⟨F⟩
  have ht0 := F.t0
  have ht1 := F.t1
  clear h F
  go_enter Tryd.func52, Tryd.ntmps52
  go_wp2
  clear h0
  go_loopw [2, 3, 9] (fun _ _ i wr => ∃ k : Nat, k ≤ n ∧ i = .int .i64 k ∧ ∃ sk : RS, Aside0 (RAt w0 wr g A0 b0 o0 c0 l v t sk) ∧ Hid (sk = (List.range k).foldl (Rob.late1 l t) s) ∧ Hid (sk.ran = s.ran)) (fun _ _ i _ => n - (intOf i).toNat)
  case atStart => exact ⟨0, by omega, rfl, s, HH, rfl, rfl⟩
  case round =>
    obtain ⟨k, hk, rfl, sk, HR, HS, HE⟩ := hrel
    by_cases hlt : k < n
    · have hkl : k < l.length := by rw [← HN.out]; exact hlt
      have hR := HR.out
      have Fk := FF.out.of_ran HE.out
      obtain ⟨hA, ⟨j0, j1, j2, j3, j4, j5, j6, j7⟩, hb0, -⟩ := hR.job k hkl
      subst hA
      have hstep : (List.range (k + 1)).foldl (Rob.late1 l t) s = Rob.late1 l t sk k := by rw [foldl_range_succ, ← HS.out]
      have HS2 := hide hstep
      have hO := Job.ok_of_good (Fk.job hkl)
      have q1 := hO.rel0
      have q2 := hO.rel1
      have q3 := hO.dl1
      have hok := Fk.job hkl
      clear hstep HS hO
      obtain ⟨j, hj⟩ : ∃ j, j = Rob.jb l k := ⟨_, rfl⟩
      have HJ := hide hj
      rw [← hj] at j0 j1 j2 j3 j4 j5 j6 j7 q1 q2 q3
      clear hj
      go_wp2_with fail
      obtain ⟨W1, hW, hb1, hk1, e0, e1, e2, e3, e4, e5, e6, e7⟩ := jbox wr j
      rw [hW]
      have hR1 := hR.below hb1
      clear hW j0 j1 j2 j3 j4 j5 j6 j7 hb0 hR
      have HR1 : Aside0 _ := ⟨hR1⟩
      have hopen := fun p : BW W1 => calls_bw_same p (open_any (hR1.below p.h) k hkl 2)
      have hneed := fun p : BW W1 => calls_bw p (need_any (hR1.below p.h) hT k hkl hok (Fk.ran k hkl).1 (by have := (Fk.ran k hkl).2; omega))
      obtain ⟨qn1, qn2⟩ := need_in Fk hkl
      obtain ⟨-, -, -, -, -, -, -, d7⟩ := hR1.cells
      have hg1 := hR1.glt
      have hcs := bw_cells W1
      clear hb1 hR1 HR e0 e1 e3 e4 e5 e6 e7 hok
      generalize hnv : Rob.need l sk k = nd at hneed qn1 qn2
      have HND := hide hnv
      clear hnv
      have HNEED : Aside0 _ := ⟨hneed⟩
      clear hneed
      cases ho : Rob.opn sk k 2 with
      | false =>
        have hnext : Rob.late1 l t sk k = sk := by
          unfold Rob.late1
          rw [ho]; rfl
        have HNX := hide hnext
        rw [ho] at hopen
        have HOP : Aside0 _ := ⟨hopen⟩
        clear hopen ho hnext
        refine wp_region_bw mixed (by kernel_rfl) ?_
        repeat (go_big_quiet_step ((go_at_call 55; exact HOP.out _)))
        refine wpQuiet_nil ?_
        rintro w' ⟨p, rfl⟩
        go_wp2
        go_roundw
        case rel => exact ⟨k + 1, by omega, by go_num, sk, ⟨HR1.out.below p.h⟩, by show _ = _; rw [HS2.out, HNX.out], HE⟩
        case measure => simp [intOf]; omega
      | true =>
        have hnext : Rob.late1 l t sk k = if decide (j.dl - t < nd) then Rob.say sk k 3 t else sk := by
          unfold Rob.late1
          rw [ho, ← HJ.out, HND.out]; rfl
        have HNX := hide hnext
        rw [ho] at hopen
        have HOP : Aside0 _ := ⟨hopen⟩
        clear hopen ho hnext
        have hw : IntKind.i64.wrap (j.dl - t) = j.dl - t := by rw [IntKind.wrap_i64]; omega
        by_cases hv : j.dl - t < nd
        · have hvd : decide (j.dl - t < nd) = true := decide_eq_true hv
          refine wp_region_bw mixed (by kernel_rfl) ?_
          repeat (go_big_quiet_step (first | (go_at_call 55; exact HOP.out _) | (go_at_call 95; exact HNEED.out _)))
          refine wpQuiet_nil ?_
          rintro w' ⟨p, rfl⟩
          have hsay := say_any (HR1.out.below p.h) k hkl 3 0 ht0 (by omega) (by omega) (by omega)
          rw [Int.add_zero] at hsay
          have HSAY : Aside0 _ := ⟨hsay⟩
          clear hsay hw
          go_wp2_with (go_at_call 56; refine HSAY.out.mono ?_; rintro e w3 ⟨rfl, hr3, hg3⟩)
          go_roundw
          case rel => exact ⟨k + 1, by omega, by go_num, _, ⟨hr3⟩, by show _ = _; rw [HS2.out, HNX.out, hvd]; rfl, HE⟩
          case measure => simp [intOf]; omega
        · have hvd : decide (j.dl - t < nd) = false := decide_eq_false hv
          refine wp_region_bw mixed (by kernel_rfl) ?_
          repeat (go_big_quiet_step (first | (go_at_call 55; exact HOP.out _) | (go_at_call 95; exact HNEED.out _)))
          refine wpQuiet_nil ?_
          rintro w' ⟨p, rfl⟩
          go_wp2
          go_roundw
          case rel => exact ⟨k + 1, by omega, by go_num, sk, ⟨HR1.out.below p.h⟩, by show _ = _; rw [HS2.out, HNX.out, hvd]; rfl, HE⟩
          case measure => simp [intOf]; omega
    · have hfin : sk = Rob.late l t s := by rw [HS.out, show k = n by omega, HN.out]; rfl
      have HF := hide hfin
      clear hfin
      go_wp2
      go_end0
      exact ⟨rfl, by rw [← HF.out]; exact HR.out⟩
end
end Go.Proofs.YtjgegnjclmkpeaaDoor
