/- Package trace: the walks of Ran, DoneAt, Good. -/
import Derived.Test.YtjgegnjclmkpeaaDoorRobRun
set_option linter.unusedVariables false
set_option linter.unusedSimpArgs false
namespace Go.Proofs.YtjgegnjclmkpeaaDoor
open Go.RowKit Go.Sort Go.Proofs

/-- Whole numbers to read. -/
structure RdInts (w : World) (A : Option Addr) (b off : Nat) (l : List Int) : Prop where
  len : l.length ≤ 1000000000
  addr : 0 < l.length → A = some ⟨b, off, none⟩
  lt : 0 < l.length → b < w.heap.size
  c : ∀ i, i < l.length → w.cell? ⟨b, off + i, none⟩ = some (.int .i64 (l.getD i 0))
theorem RdInts.below {w w' : World} {A : Option Addr} {b off : Nat} {l : List Int} (h : RdInts w A b off l) (hb : Below w.heap.size w w') : RdInts w' A b off l :=
  ⟨h.len, h.addr, fun h0 => Nat.lt_of_lt_of_le (h.lt h0) hb.size, fun i hi => (hb.cell (p := ⟨b, off + i, none⟩) (h.lt (by omega))).trans (h.c i hi)⟩
theorem rdi_own {w : World} {B : Nat} {A : Option Addr} {l : List Int} {c : Nat} (h : w.ownsRow B 3 1 (.slice A l.length c) l.length (ints l)) (hl : l.length ≤ 1000000000) : ∃ b, RdInts w A b 0 l := by
  rcases Joins.ownsRow_forms h with ⟨hv, h0⟩ | ⟨g, cap, hv⟩
  · exact ⟨0, hl, fun h => by omega, fun h => by omega, fun i h => by omega⟩
  · simp only [Value.slice.injEq] at hv
    obtain ⟨rfl, -, -⟩ := hv
    exact ⟨g, hl, fun _ => rfl, fun _ => (h.lt g rfl).2, fun i hi => by rw [Nat.zero_add]; exact own_int h i hi⟩
theorem getD_int {l : List Int} {k : Nat} (h : k < l.length) : l.getD k 0 = l[k] := by simp [List.getD_eq_getElem?_getD, List.getElem?_eq_getElem h]
theorem ran_any (A : Option Addr) (b off c : Nat) (t : List Int) (i : Int) (w : World) (R : RdInts w A b off t) :
    Calls Tryd.prog 20 #[.slice A t.length c, .int .i64 i] w fun e w' => e = .returned (.int .i64 (ranIn t i)) ∧ w = w' := by
  have hn := R.len
  obtain ⟨n, hn'⟩ : ∃ n, n = t.length := ⟨_, rfl⟩
  have HN := hide hn'
  have HR : Aside0 _ := ⟨R⟩
  rw [← hn'] at hn ⊢
  clear hn' R
  go_enter Tryd.func20, Tryd.ntmps20
  go_wp2
  go_loopw [5, 7, 10] (fun x _ q wr => ∃ k : Nat, k ≤ n ∧ q = .int .i64 k ∧ w = wr ∧ ∃ m : Nat, x = .int .i64 m ∧ m ≤ k ∧ Hid (m = (t.take k).count i)) (fun _ _ q _ => n - (intOf q).toNat)
  case atStart => exact ⟨0, by omega, rfl, rfl, 0, rfl, by omega, by simp [Hid]⟩
  case round =>
    obtain ⟨k, hk, rfl, rfl, m, rfl, hm, HM⟩ := hrel
    by_cases hlt : k < n
    · have hkl : k < t.length := by rw [← HN.out]; exact hlt
      have hA := HR.out.addr (by omega)
      subst hA
      have hc := HR.out.c k hkl
      have hstep : (t.take (k + 1)).count i = m + if t.getD k 0 = i then 1 else 0 := by
        rw [List.take_succ_eq_append_getElem hkl, List.count_append, ← HM.out, getD_int hkl, List.count_singleton]
        simp only [beq_iff_eq]
      have HS := hide hstep
      clear hstep
      generalize t.getD k 0 = y at hc HS
      by_cases hy : y = i
      · subst hy
        rw [if_pos rfl] at HS
        go_wp2
        go_roundw
        case rel => exact ⟨k + 1, by omega, by go_num, by first | trivial | rfl, m + 1, by go_num, by omega, HS.out.symm⟩
        case measure => simp [intOf]; omega
      · have hyb : (y == i) = false := beq_eq_false_iff_ne.2 hy
        rw [if_neg hy] at HS
        go_wp2
        go_roundw
        case rel => exact ⟨k + 1, by omega, by go_num, by first | trivial | rfl, m, rfl, by omega, HS.out.symm⟩
        case measure => simp [intOf]; omega
    · have hfin : (m : Int) = ranIn t i := by
        have h1 := HM.out
        rw [show k = t.length by rw [← HN.out]; omega, List.take_length] at h1
        rw [h1]; rfl
      go_wp2
      go_ret
      exact ⟨ret_int hfin, rfl⟩
theorem doneGo_cons (i left tick k : Int) (t : List Int) : doneGo i left tick (k :: t) = if (if k = i then left - 1 else left) = 0 then (tick + 1, true) else doneGo i (if k = i then left - 1 else left) (tick + 1) t := rfl
set_option maxHeartbeats 1000000 in
theorem doneAt_any (A : Option Addr) (b off c : Nat) (l : List Job) (A2 : Option Addr) (b2 off2 c2 : Nat) (t : List Int) (i : Nat) (w : World) (R : RdJobs w A b off l) (R2 : RdInts w A2 b2 off2 t) (hT : Tabs w) (hok : allOk l = true) (hi : i < l.length) :
    Calls Tryd.prog 18 #[.slice A l.length c, .slice A2 t.length c2, .int .i64 i] w fun e w' => e = .returned (.tuple #[.int .i64 (doneAt l t i).1, .bool (doneAt l t i).2]) ∧ Below w.heap.size w w' := by
  have hn := R.len
  have hn2 := R2.len
  have hall := all_any A b off c l w R hT
  rw [hok] at hall
  have HALL : Aside0 _ := ⟨hall⟩
  have hA := R.addr (by omega)
  subst hA
  have hokj : (Rob.jb l i).ok = true := by
    have := hok
    unfold allOk allGood at this
    simp only [Bool.and_eq_true, List.all_eq_true] at this
    exact this.2 _ (Rob.jb_mem hi)
  have hO := Job.ok_of_good hokj
  have hw0 := hO.work0
  have hw1 : (Rob.jb l i).work ≤ 100000 := by
    have a1 := hO.bud1
    have a2 := hO.cln1
    unfold Job.work; split <;> omega
  have hnm := R.names _ (Rob.jb_mem hi)
  have hwork : ∀ W, Below w.heap.size w W → Calls Tryd.prog 57 #[.agg #[.string (Rob.jb l i).name, .int .i64 (Rob.jb l i).rel, .int .i64 (Rob.jb l i).dl, .int .i64 (Rob.jb l i).bud, .int .i64 (Rob.jb l i).act, .int .i64 (Rob.jb l i).val, .int .i64 (Rob.jb l i).cln, .bool (Rob.jb l i).hard]] W fun e w' => e = .returned (.int .i64 (Rob.jb l i).work) ∧ Below W.heap.size W w' :=
    fun W hW => work_any _ _ _ _ _ _ _ _ W hnm (hT.below hW) hokj
  have HWORK : Aside0 _ := ⟨hwork⟩
  have hrows : ∀ W, Below w.heap.size w W → Row W b (off + i * 8) (Rob.jb l i) := fun W hW => (R.below hW).row i hi
  have HROWS : Aside0 _ := ⟨hrows⟩
  have HD : Hid (doneAt l t i = doneGo i (Rob.jb l i).work 0 t) := rfl
  have HR2 : Aside0 _ := ⟨R2⟩
  clear hall hwork hrows R R2 hokj hO
  generalize hD : doneAt l t i = D at HD ⊢
  clear hD
  generalize Rob.jb l i = j at *
  generalize hwv : j.work = wv at *
  clear hwv
  obtain ⟨n, hn'⟩ : ∃ n, n = l.length := ⟨_, rfl⟩
  obtain ⟨m, hm'⟩ : ∃ m, m = t.length := ⟨_, rfl⟩
  have HM := hide hm'
  rw [← hn'] at hn hi HALL ⊢
  rw [← hm'] at hn2 ⊢
  clear hn' hm'
  have hiz : ¬ ((i : Int) < 0) := by omega
  have hiz2 : ¬ ((n : Int) ≤ (i : Int)) := by omega
  have hiz3 : (i : Int) < (n : Int) := by omega
  go_enter Tryd.func18, Tryd.ntmps18
  go_wp2_with (first | (go_at_call 41; refine HALL.out.mono ?_; rintro e w1 ⟨rfl, hb1⟩; obtain ⟨j0, j1, j2, j3, j4, j5, j6, j7⟩ := HROWS.out w1 hb1) | (go_at_call 57; refine (HWORK.out w1 hb1).mono ?_; rintro e w2 ⟨rfl, hb2⟩))
  have HB : Aside0 _ := ⟨below_then hb1 hb2⟩
  clear hb1 hb2
  go_loopw [8, 9, 10, 31] (fun x _ _ q wr => ∃ k : Nat, k ≤ m ∧ q = .int .i64 k ∧ w2 = wr ∧ ∃ left : Int, x = .int .i64 left ∧ left ≤ 100000 ∧ -2000000000 ≤ left - (m - k : Nat) ∧ Hid (D = doneGo i left k (t.drop k))) (fun _ _ _ q _ => m - (intOf q).toNat)
  case atStart => exact ⟨0, by omega, rfl, rfl, wv, rfl, by omega, by omega, HD⟩
  case round =>
    obtain ⟨k, hk, rfl, rfl, left, rfl, hl0, hl1, HK⟩ := hrel
    by_cases hlt : k < m
    · have hkl : k < t.length := by rw [← HM.out]; exact hlt
      have hR := HR2.out.below HB.out
      have hA := hR.addr (by omega)
      subst hA
      have hc := hR.c k hkl
      have hstep : D = doneGo i left k (t.getD k 0 :: t.drop (k + 1)) := by rw [HK.out, getD_int hkl, List.drop_eq_getElem_cons hkl]
      rw [doneGo_cons] at hstep
      have HS := hide hstep
      clear hstep hR HK
      generalize t.getD k 0 = y at hc HS
      by_cases hy : y = i
      · subst hy
        rw [if_pos rfl] at HS
        by_cases hz : left - 1 = 0
        · rw [if_pos hz] at HS
          have hzb : (left - 1 == 0) = true := beq_iff_eq.2 hz
          go_wp2
          go_ret2
          exact ⟨by rw [HS.out]; rfl, HB.out⟩
        · rw [if_neg hz] at HS
          have hzb : (left - 1 == 0) = false := beq_eq_false_iff_ne.2 hz
          go_wp2
          go_roundw
          case rel => exact ⟨k + 1, by omega, by go_num, by first | trivial | rfl, left - 1, rfl, by omega, by omega, by show _ = _; rw [HS.out]; norm_cast⟩
          case measure => simp [intOf]; omega
      · have hyb : (y == (i : Int)) = false := beq_eq_false_iff_ne.2 hy
        rw [if_neg hy] at HS
        by_cases hz : left = 0
        · rw [if_pos hz] at HS
          subst hz
          go_wp2
          go_ret2
          exact ⟨by rw [HS.out]; rfl, HB.out⟩
        · rw [if_neg hz] at HS
          have hzb : (left == 0) = false := beq_eq_false_iff_ne.2 hz
          go_wp2
          go_roundw
          case rel => exact ⟨k + 1, by omega, by go_num, by first | trivial | rfl, left, rfl, by omega, by omega, by show _ = _; rw [HS.out]; norm_cast⟩
          case measure => simp [intOf]; omega
    · have hfin : D = (0, false) := by
        rw [HK.out, List.drop_eq_nil_of_le (by rw [← HM.out]; omega)]; rfl
      have HF := hide hfin
      clear hfin
      go_wp2
      go_ret2
      exact ⟨by rw [HF.out]; rfl, HB.out⟩
end Go.Proofs.YtjgegnjclmkpeaaDoor
