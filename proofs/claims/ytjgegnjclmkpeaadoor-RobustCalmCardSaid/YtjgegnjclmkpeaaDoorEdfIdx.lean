/- edf.run's closure; slices.IndexFunc over places. -/
import Derived.Test.YtjgegnjclmkpeaaDoorByDl
set_option linter.unusedVariables false
set_option linter.unusedSimpArgs false
namespace Go.Proofs.YtjgegnjclmkpeaaDoor
open Go.RowKit Go.Sort Go.Proofs

section
variable {A0 : Option Addr} {b0 o0 c0 : Nat} {l : List Job}
/-- What edf.run's closure takes of a world: the boxes of l, tick, left; the row left. -/
structure PCtx (w : World) (lb tb fb gl : Nat) (A0 : Option Addr) (b0 o0 c0 : Nat) (l : List Job) (t : Int) (left : List Int) : Prop where
  jobs : RdJobs w A0 b0 o0 l
  lbox : w.cell? ⟨lb, 0, none⟩ = some (.slice A0 l.length c0)
  tbox : w.cell? ⟨tb, 0, none⟩ = some (.int .i64 t)
  fbox : w.cell? ⟨fb, 0, none⟩ = some (.slice (some ⟨gl, 0, none⟩) l.length l.length)
  cl : ∀ i, i < l.length → w.cell? ⟨gl, i, none⟩ = some (.int .i64 (left.getD i 0))
theorem PCtx.below {w w' : World} {lb tb fb gl : Nat} {t : Int} {left : List Int} (h : PCtx w lb tb fb gl A0 b0 o0 c0 l t left) (hb : Below w.heap.size w w') : PCtx w' lb tb fb gl A0 b0 o0 c0 l t left :=
  ⟨h.jobs.below hb, (hb.cell (p := ⟨lb, 0, none⟩) (World.block_lt_of_cell? _ _ h.lbox)).trans h.lbox, (hb.cell (p := ⟨tb, 0, none⟩) (World.block_lt_of_cell? _ _ h.tbox)).trans h.tbox, (hb.cell (p := ⟨fb, 0, none⟩) (World.block_lt_of_cell? _ _ h.fbox)).trans h.fbox,
    fun i hi => (hb.cell (p := ⟨gl, i, none⟩) (World.block_lt_of_cell? _ _ (h.cl i hi))).trans (h.cl i hi)⟩
set_option maxHeartbeats 2000000 in
theorem pred_any {w : World} {lb tb fb gl : Nat} {t : Int} {left : List Int} (h : PCtx w lb tb fb gl A0 b0 o0 c0 l t left) (x : Nat) (hx : x < l.length) :
    Calls Tryd.prog 101 #[.int .i64 x, .pointer (some ⟨lb, 0, none⟩), .pointer (some ⟨tb, 0, none⟩), .pointer (some ⟨fb, 0, none⟩)] w fun e w' => e = .returned (.bool (Rob.pickP l left t x)) ∧ Below w.heap.size w w' := by
  have mixed : Tryd.prog.follows .mixedOrders = true := by kernel_rfl
  have hA := h.jobs.addr (by omega)
  subst hA
  obtain ⟨-, j1, -, -, -, -, -, -⟩ := h.jobs.row x hx
  have hl := h.lbox
  have ht := h.tbox
  have hf := h.fbox
  have hc := h.cl x hx
  have hlen := h.jobs.len
  have hF : Rob.pickP l left t x = (decide ((Rob.jb l x).rel ≤ t) && decide (0 < left.getD x 0)) := rfl
  clear h
  rw [hF]
  clear hF
  generalize (Rob.jb l x).rel = r at *
  generalize left.getD x 0 = v at *
  generalize l.length = n at *
  have hxz : (x : Int) < (n : Int) := by omega
  by_cases h1 : r ≤ t
  · have hd1 : decide (r ≤ t) = true := decide_eq_true h1
    have HD1 := hide hd1
    by_cases h2 : 0 < v
    · have hd2 : decide (0 < v) = true := decide_eq_true h2
      have HD2 := hide hd2
      go_enter Tryd.func101, Tryd.ntmps101
      go_wp2_with fail
      go_quiet (fail)
      go_wp2
      go_ret
      exact ⟨ret_bool (by rw [HD1.out, HD2.out]; rfl), below_drewN (Below.refl _ _) _⟩
    · have hd2 : decide (0 < v) = false := decide_eq_false h2
      have HD2 := hide hd2
      go_enter Tryd.func101, Tryd.ntmps101
      go_wp2_with fail
      go_quiet (fail)
      go_wp2
      go_ret
      exact ⟨ret_bool (by rw [HD1.out, HD2.out]; rfl), below_drewN (Below.refl _ _) _⟩
  · have hd1 : decide (r ≤ t) = false := decide_eq_false h1
    have HD1 := hide hd1
    go_enter Tryd.func101, Tryd.ntmps101
    go_wp2_with fail
    go_quiet (fail)
    go_wp2
    go_ret
    exact ⟨ret_bool (by rw [HD1.out]; rfl), below_drewN (Below.refl _ _) _⟩
theorem find_take_succ {α : Type} (p : α → Bool) (r : List α) (k : Nat) (hk : k < r.length) (h : (r.take k).find? p = none) : (p r[k] = true → r.find? p = some r[k]) ∧ (p r[k] = false → (r.take (k + 1)).find? p = none) := by
  refine ⟨fun hp => ?_, fun hp => ?_⟩
  · have e : r.find? p = (r.take k ++ r.drop k).find? p := by rw [List.take_append_drop]
    rw [e, List.find?_append, h, List.drop_eq_getElem_cons hk]
    simp only [List.find?_cons, hp, Option.none_or]
  · rw [List.take_succ_eq_append_getElem hk, List.find?_append, h]
    simp [hp]
set_option maxHeartbeats 2000000 in
theorem idx_any {w : World} {lb tb fb gl : Nat} {t : Int} {left : List Int} (h : PCtx w lb tb fb gl A0 b0 o0 c0 l t left) (A : Option Addr) (b off c : Nat) (r : List Nat) (hr : ∀ x ∈ r, x < l.length) (R : RdInts w A b off (r.map fun i : Nat => (i : Int))) :
    Calls Tryd.prog 100 #[.slice A r.length c, .func (.func 101) #[] #[.pointer (some ⟨lb, 0, none⟩), .pointer (some ⟨tb, 0, none⟩), .pointer (some ⟨fb, 0, none⟩)]] w fun e w' =>
      Below w.heap.size w w' ∧ ((∃ k : Nat, ∃ hk : k < r.length, e = .returned (.int .i64 k) ∧ r.find? (Rob.pickP l left t) = some r[k]) ∨ (e = .returned (.int .i64 (-1)) ∧ r.find? (Rob.pickP l left t) = none)) := by
  have hn : r.length ≤ 1000000000 := by have := R.len; rwa [List.length_map] at this
  obtain ⟨n, hn'⟩ : ∃ n, n = r.length := ⟨_, rfl⟩
  have HN := hide hn'
  have HP : Aside0 _ := ⟨h⟩
  have HRR := hide hr
  rw [← hn'] at hn
  have hgoal : (Calls Tryd.prog 100 #[.slice A n c, .func (.func 101) #[] #[.pointer (some ⟨lb, 0, none⟩), .pointer (some ⟨tb, 0, none⟩), .pointer (some ⟨fb, 0, none⟩)]] w fun e w' =>
      Below w.heap.size w w' ∧ ((∃ k : Nat, ∃ hk : k < r.length, e = .returned (.int .i64 k) ∧ r.find? (Rob.pickP l left t) = some r[k]) ∨ (e = .returned (.int .i64 (-1)) ∧ r.find? (Rob.pickP l left t) = none))) := by
    have HR : Aside0 _ := ⟨R⟩
    clear hn' h hr R
    go_enter Tryd.func100, Tryd.ntmps100
    go_wp2
    go_loopw [5, 8] (fun _ i wr => ∃ k : Nat, k ≤ n ∧ i = .int .i64 k ∧ Below w.heap.size w wr ∧ Hid ((r.take k).find? (Rob.pickP l left t) = none)) (fun _ i _ => n - (intOf i).toNat)
    case atStart => exact ⟨0, by omega, rfl, Below.refl _ _, rfl⟩
    case round =>
      obtain ⟨k, hk, rfl, hb, HA⟩ := hrel
      by_cases hlt : k < n
      · have hkl : k < r.length := by rw [← HN.out]; exact hlt
        have hAA := HR.out.addr (by rw [List.length_map]; omega)
        subst hAA
        have hc := (HR.out.below hb).c k (by rw [List.length_map]; exact hkl)
        have hge : (r.map fun i : Nat => (i : Int)).getD k 0 = (r[k] : Int) := by simp [List.getD_eq_getElem?_getD, List.getElem?_eq_getElem hkl]
        rw [hge] at hc
        obtain ⟨s1, s2⟩ := find_take_succ _ r k hkl HA.out
        have hpred := pred_any (HP.out.below hb) r[k] (HRR.out _ (List.getElem_mem hkl))
        have S1 := hide s1
        have S2 := hide s2
        have HB : Aside0 _ := ⟨hb⟩
        clear s1 s2 hge hb
        generalize hx : r[k] = x at hc hpred S1 S2
        have HX := hide hx
        clear hx
        cases hg : Rob.pickP l left t x with
        | true =>
          rw [hg] at hpred
          have HPR : Aside0 _ := ⟨hpred⟩
          have HGG := hide hg
          clear hg hpred
          go_wp2_with (go_at_call 101; refine HPR.out.mono ?_; rintro e w3 ⟨rfl, hb3⟩)
          go_ret
          exact ⟨below_then HB.out hb3, .inl ⟨k, hkl, rfl, by rw [HX.out]; exact S1.out HGG.out⟩⟩
        | false =>
          rw [hg] at hpred
          have HPR : Aside0 _ := ⟨hpred⟩
          have HGG := hide hg
          clear hg hpred
          go_wp2_with (go_at_call 101; refine HPR.out.mono ?_; rintro e w3 ⟨rfl, hb3⟩)
          go_roundw
          case rel => exact ⟨k + 1, by omega, by go_num, below_then HB.out hb3, S2.out HGG.out⟩
          case measure => simp [intOf]; omega
      · have hfin : r.find? (Rob.pickP l left t) = none := by
          have := HA.out
          rwa [List.take_of_length_le (by rw [← HN.out]; omega)] at this
        have HF := hide hfin
        clear hfin
        go_wp2
        go_ret
        exact ⟨hb, .inr ⟨rfl, HF.out⟩⟩
  subst hn'
  exact hgoal
end
end Go.Proofs.YtjgegnjclmkpeaaDoor
