/- The robust runner: the walks of head, late. -/
import Derived.Test.YtjgegnjclmkpeaaDoorRobW2
set_option linter.unusedVariables false
set_option linter.unusedSimpArgs false
namespace Go.Proofs.YtjgegnjclmkpeaaDoor
open Go.RowKit

section
variable {w0 w : World} {g : Nat} {A0 : Option Addr} {b0 o0 c0 : Nat} {l : List Job} {v : RV} {t : Int} {s : RS}
set_option maxHeartbeats 2000000 in
theorem head_any (h : RAt w0 w g A0 b0 o0 c0 l v t s) :
    Calls Tryd.prog 98 #[.pointer (some ⟨g, 0, none⟩)] w fun e w' => e = .returned (.int .i64 (Rob.head l s)) ∧ Below w.heap.size w w' := by
  have hn := h.jobs.len
  have mixed : Tryd.prog.follows .mixedOrders = true := by kernel_rfl
  obtain ⟨n, hn'⟩ : ∃ n, n = l.length := ⟨_, rfl⟩
  have HN := hide hn'
  obtain ⟨h0, -, -, -, -, -, -, -⟩ := h.cells
  rw [← hn'] at hn h0
  clear hn'
  have HH : Aside0 _ := ⟨h⟩
  clear h
  go_enter Tryd.func98, Tryd.ntmps98
  go_wp2
  clear h0
  go_loopw [3, 4, 5, 11] (fun b _ _ i wr => ∃ k : Nat, k ≤ n ∧ i = .int .i64 k ∧ Below w.heap.size w wr ∧ ∃ x : Int, b = .int .i64 x ∧ -1 ≤ x ∧ x < n ∧ Hid (x = (List.range k).foldl (Rob.head1 l s) (-1))) (fun _ _ _ i _ => n - (intOf i).toNat)
  case atStart => exact ⟨0, by omega, rfl, Below.refl _ _, -1, rfl, by omega, by omega, rfl⟩
  case round =>
    obtain ⟨k, hk, rfl, hb, x, rfl, hx0, hx1, HX⟩ := hrel
    by_cases hlt : k < n
    · have hkl : k < l.length := by rw [← HN.out]; exact hlt
      have hR := HH.out.below hb
      obtain ⟨hA, ⟨j0, j1, j2, j3, j4, j5, j6, j7⟩, hb0, -⟩ := hR.job k hkl
      subst hA
      have HB : Aside0 _ := ⟨hb⟩
      have hstep : (List.range (k + 1)).foldl (Rob.head1 l s) (-1) = Rob.head1 l s x k := by rw [foldl_range_succ, ← HX.out]
      have HS := hide hstep
      clear hstep HX hb
      obtain ⟨j, hj⟩ : ∃ j, j = Rob.jb l k := ⟨_, rfl⟩
      have HJ := hide hj
      rw [← hj] at j0 j1 j2 j3 j4 j5 j6 j7
      clear hj
      go_wp2_with fail
      obtain ⟨W1, hW, hb1, hk1, e0, e1, e2, e3, e4, e5, e6, e7⟩ := jbox wr j
      rw [hW]
      have hR1 := hR.below hb1
      have hb2 := below_then HB.out hb1
      clear hW j0 j1 j2 j3 j4 j5 j6 j7 hb0 hR
      have HR1 : Aside0 _ := ⟨hR1⟩
      have HB2 : Aside0 _ := ⟨hb2⟩
      have hopen := fun p : BW W1 => calls_bw_same p (open_any (hR1.below p.h) k hkl 1)
      obtain ⟨d0, d1, d2, -, d4, -, -, -⟩ := hR1.cells
      have hg1 := hR1.glt
      rw [← HN.out] at d0
      have hcs := bw_cells W1
      clear hb1 hb2 hR1 HB e0 e1 e3 e4 e5 e6 e7 d1 d2 d4
      cases ho : Rob.opn s k 1 with
      | false =>
        have hnext : Rob.head1 l s x k = x := by
          unfold Rob.head1
          rw [ho]; rfl
        have HNX := hide hnext
        clear hnext
        rw [ho] at hopen
        have HOP : Aside0 _ := ⟨hopen⟩
        clear hopen ho
        refine wp_region_bw mixed (by kernel_rfl) ?_
        repeat (go_big_quiet_step ((go_at_call 55; exact HOP.out _)))
        refine wpQuiet_nil ?_
        rintro w' ⟨p, rfl⟩
        go_wp2
        go_roundw
        case rel => exact ⟨k + 1, by omega, by go_num, below_then HB2.out p.h, x, rfl, hx0, hx1, by show _ = _; rw [HS.out, HNX.out]⟩
        case measure => simp [intOf]; omega
      | true =>
        have hnext : Rob.head1 l s x k = if decide (x < 0) || decide (j.dl < (Rob.jb l x.toNat).dl) then (k : Int) else x := by
          unfold Rob.head1
          rw [ho, ← HJ.out]; rfl
        have HNX := hide hnext
        clear hnext
        rw [ho] at hopen
        have HOP : Aside0 _ := ⟨hopen⟩
        clear hopen ho
        by_cases hx : x < 0
        · have hxd : decide (x < 0) = true := decide_eq_true hx
          refine wp_region_bw mixed (by kernel_rfl) ?_
          repeat (go_big_quiet_step ((go_at_call 55; exact HOP.out _)))
          refine wpQuiet_nil ?_
          rintro w' ⟨p, rfl⟩
          go_wp2
          go_roundw
          case rel => exact ⟨k + 1, by omega, by go_num, below_then HB2.out p.h, k, rfl, by omega, by omega, by show _ = _; rw [HS.out, HNX.out, hxd]; rfl⟩
          case measure => simp [intOf]; omega
        · obtain ⟨m, rfl⟩ := Int.eq_ofNat_of_zero_le (show 0 ≤ x by omega)
          have hxd : decide ((m : Int) < 0) = false := decide_eq_false hx
          have hml : m < l.length := by rw [← HN.out]; omega
          obtain ⟨-, ⟨-, -, m2, -, -, -, -, -⟩, hb0', -⟩ := HR1.out.job m hml
          rw [Int.toNat_natCast] at HNX
          generalize hvm : (Rob.jb l m).dl = vm at m2 HNX
          clear hvm
          by_cases hv : j.dl < vm
          · have hvd : decide (j.dl < vm) = true := decide_eq_true hv
            refine wp_region_bw mixed (by kernel_rfl) ?_
            repeat (go_big_quiet_step ((go_at_call 55; exact HOP.out _)))
            refine wpQuiet_nil ?_
            rintro w' ⟨p, rfl⟩
            go_wp2
            go_roundw
            case rel => exact ⟨k + 1, by omega, by go_num, below_then HB2.out p.h, k, rfl, by omega, by omega, by show _ = _; rw [HS.out, HNX.out, hvd, Bool.or_true]; rfl⟩
            case measure => simp [intOf]; omega
          · have hvd : decide (j.dl < vm) = false := decide_eq_false hv
            refine wp_region_bw mixed (by kernel_rfl) ?_
            repeat (go_big_quiet_step ((go_at_call 55; exact HOP.out _)))
            refine wpQuiet_nil ?_
            rintro w' ⟨p, rfl⟩
            go_wp2
            go_roundw
            case rel => exact ⟨k + 1, by omega, by go_num, below_then HB2.out p.h, m, rfl, by omega, by omega, by show _ = _; rw [HS.out, HNX.out, hvd, hxd]; rfl⟩
            case measure => simp [intOf]; omega
    · go_wp2
      go_ret
      exact ⟨ret_int (by rw [HX.out, show k = n by omega, HN.out]; rfl), hb⟩
end
end Go.Proofs.YtjgegnjclmkpeaaDoor
