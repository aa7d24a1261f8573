/- Package job: the walks of Charge, Work, End. -/
import Derived.Test.YtjgegnjclmkpeaaDoorJobWalk
set_option linter.unusedVariables false
set_option linter.unusedSimpArgs false
namespace Go.Proofs.YtjgegnjclmkpeaaDoor
open Go.RowKit

/-- Of a job that may be: its charge. -/
theorem charge_any (nm : ByteArray) (rel dl bud act val cln : Int) (hard : Bool) (w : World) (hs : nm.size ≤ 140737488351232) (hT : Tabs w) (hok : Job.ok ⟨nm, rel, dl, bud, act, val, cln, hard⟩ = true) :
    Calls Tryd.prog 59 #[.agg #[.string nm, .int .i64 rel, .int .i64 dl, .int .i64 bud, .int .i64 act, .int .i64 val, .int .i64 cln, .bool hard]] w fun e w' => e = .returned (.int .i64 (bud + cln)) ∧ Below w.heap.size w w' := by
  have hb0 := (Below.refl w.heap.size w).alloc (Nat.le_refl _) (.cells #[.string nm, .int .i64 rel, .int .i64 dl, .int .i64 bud, .int .i64 act, .int .i64 val, .int .i64 cln, .bool hard] 39)
  have hT2 := hT.below hb0
  have hO := Job.ok_of_good hok
  have h1 := hO.bud0
  have h2 := hO.bud1
  have h3 := hO.cln0
  have h4 := hO.cln1
  simp only at h1 h2 h3 h4
  clear hO
  go_enter Tryd.func59, Tryd.ntmps59
  go_wp2_with (go_at_call 80; refine (good_any _ _ _ _ _ _ _ _ _ hs hT2).mono ?_; rintro e w3 ⟨rfl, hb3⟩; obtain ⟨hc3, hf3⟩ := bcell hb3)
  go_ret
  exact ⟨rfl, below_then hb0 hb3⟩
theorem work_any (nm : ByteArray) (rel dl bud act val cln : Int) (hard : Bool) (w : World) (hs : nm.size ≤ 140737488351232) (hT : Tabs w) (hok : Job.ok ⟨nm, rel, dl, bud, act, val, cln, hard⟩ = true) :
    Calls Tryd.prog 57 #[.agg #[.string nm, .int .i64 rel, .int .i64 dl, .int .i64 bud, .int .i64 act, .int .i64 val, .int .i64 cln, .bool hard]] w fun e w' => e = .returned (.int .i64 (Job.work ⟨nm, rel, dl, bud, act, val, cln, hard⟩)) ∧ Below w.heap.size w w' := by
  have hb0 := (Below.refl w.heap.size w).alloc (Nat.le_refl _) (.cells #[.string nm, .int .i64 rel, .int .i64 dl, .int .i64 bud, .int .i64 act, .int .i64 val, .int .i64 cln, .bool hard] 39)
  have hT2 := hT.below hb0
  have hO := Job.ok_of_good hok
  have h1 := hO.bud0
  have h2 := hO.bud1
  have h3 := hO.cln0
  have h4 := hO.cln1
  simp only at h1 h2 h3 h4
  clear hO
  by_cases hr : act ≤ bud
  all_goals
    go_enter Tryd.func57, Tryd.ntmps57
    go_wp2_with (first | (go_at_call 80; refine (good_any _ _ _ _ _ _ _ _ _ hs hT2).mono ?_; rintro e w3 ⟨rfl, hb3⟩; obtain ⟨hc3, hf3⟩ := bcell hb3) | (go_at_call 19; refine (runs_any _ _ _ _ _ _ _ _ _).mono ?_; rintro e w4 ⟨rfl, hb4⟩; obtain ⟨hc4, hf4⟩ := bcell hb4; have hz4 : w.heap.size < w3.heap.size := Nat.lt_of_lt_of_le (by simp) hb3.size))
    go_ret
    exact ⟨ret_int (by first | (simp [Job.work, hr]; done) | (simp [Job.work]; omega)), below_then (below_then hb0 hb3) hb4⟩
/-- Of jobs that may be: the greatest deadline. -/
theorem end_any (A : Option Addr) (b off c : Nat) (l : List Job) (w : World) (R : RdJobs w A b off l) (hT : Tabs w) (hok : allOk l = true) :
    Calls Tryd.prog 24 #[.slice A l.length c] w fun e w' => e = .returned (.int .i64 (endOf l)) ∧ Below w.heap.size w w' := by
  have hn := R.len
  obtain ⟨n, hn'⟩ : ∃ n, n = l.length := ⟨_, rfl⟩
  have HN := hide hn'
  have HC : Aside0 _ := ⟨all_any A b off c l w R hT⟩
  rw [← hn'] at hn HC ⊢
  clear hn'
  go_enter Tryd.func24, Tryd.ntmps24
  go_wp2_with (go_at_call 41; refine HC.out.mono ?_; rintro e w3 ⟨rfl, hb3⟩)
  have R3 := R.below hb3
  have HB3 : Aside0 _ := ⟨hb3⟩
  clear hb3
  go_loopw [3, 5, 11] (fun m _ i wr => ∃ k : Nat, k ≤ n ∧ i = .int .i64 k ∧ Below w3.heap.size w3 wr ∧ ∃ x : Int, m = .int .i64 x ∧ Hid (x = endOf (l.take k))) (fun _ _ i _ => n - (intOf i).toNat)
  case atStart => exact ⟨0, by omega, rfl, Below.refl _ _, 0, rfl, rfl⟩
  case round =>
    obtain ⟨k, hk, rfl, hb, x, rfl, HX⟩ := hrel
    by_cases hlt : k < n
    · have hl0 : 0 < l.length := by rw [← HN.out]; omega
      have hA := R.addr hl0
      subst hA
      obtain ⟨j0, j1, j2, j3, j4, j5, j6, j7⟩ := (R3.below hb).row k (by rw [← HN.out]; exact hlt)
      have hsn : endOf (l.take (k + 1)) = max (endOf (l.take k)) (Rob.jb l k).dl := by
        have hkl : k < l.length := by rw [← HN.out]; exact hlt
        unfold endOf
        rw [List.take_succ_eq_append_getElem hkl, List.foldl_append, Rob.jb_get hkl]
        rfl
      have HS := hide hsn
      generalize Rob.jb l k = j at j0 j1 j2 j3 j4 j5 j6 j7 HS
      clear hsn
      go_wp2
      go_roundw
      case rel => exact ⟨k + 1, by omega, by go_num, hb.alloc hb.size _, _, rfl, by show _ = _; first | (rw [HS.out, HX.out]; done) | (rw [HS.out, HX.out]; simp only [Int.max_def]; split <;> split <;> omega)⟩
      case measure => simp [intOf]; omega
    · go_wp2
      go_ret
      exact ⟨ret_int (by rw [HX.out, List.take_of_length_le (by rw [← HN.out]; omega)]), below_then HB3.out hb⟩
end Go.Proofs.YtjgegnjclmkpeaaDoor
