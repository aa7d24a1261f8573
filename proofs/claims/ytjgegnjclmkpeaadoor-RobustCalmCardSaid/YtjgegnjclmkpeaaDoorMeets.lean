/- edf.Run, edf.Meets. -/
import Derived.Test.YtjgegnjclmkpeaaDoorSliceTo
set_option linter.unusedVariables false
set_option linter.unusedSimpArgs false
namespace Go.Proofs.YtjgegnjclmkpeaaDoor
open Go.RowKit Go.Sort Go.Proofs

section
variable {A0 : Option Addr} {b0 o0 c0 : Nat} {l : List Job}
theorem edfRun_any (w : World) (R : RdJobs w A0 b0 o0 l) (hT : Tabs w) (hok : allOk l = true) (hl20 : l.length < 20) (T : Nat) (hT1 : T ≤ 10000) :
    Calls Tryd.prog 23 #[.slice A0 l.length c0, .int .i64 T] w fun e w' => Below w.heap.size w w' ∧ ∃ A' c', e = .returned (.slice A' T c') ∧ w'.ownsRow w.heap.size 3 1 (.slice A' T c') T (ints (Rob.edfAt l Job.work T).2) := by
  have hC : Aside0 _ := ⟨runWork_any (c0 := c0) w R hT hok hl20 T hT1⟩
  clear R hT hok hl20
  generalize l.length = n at *
  go_enter Tryd.func23, Tryd.ntmps23
  go_wp2_with (go_at_call 58; refine hC.out.mono ?_; rintro e w1 ⟨hb1, A', c', rfl, ho⟩)
  go_ret
  exact ⟨hb1, A', c', rfl, ho⟩
set_option maxHeartbeats 4000000 in
set_option maxRecDepth 100000 in
theorem meets_any (w : World) (R : RdJobs w A0 b0 o0 l) (hT : Tabs w) (hok : allOk l = true) (hl20 : l.length < 20) :
    Calls Tryd.prog 21 #[.slice A0 l.length c0] w fun e w' => Below w.heap.size w w' ∧ ∃ r : Bool, e = .returned (.bool r) ∧ (r = true → Rob.meetsAll l) := by
  have mixed : Tryd.prog.follows .mixedOrders = true := by kernel_rfl
  have hn := R.len
  have hokj : ∀ j ∈ l, j.ok = true := by
    have := hok
    unfold allOk allGood at this
    simp only [Bool.and_eq_true, List.all_eq_true] at this
    exact this.2
  have hE0 := endOf_nonneg l
  have hE1 : endOf l ≤ 10000 := endOf_le (by omega) (fun j hj => (Job.ok_of_good (hokj j hj)).dl1)
  have hEd : ∀ j ∈ l, j.dl ≤ endOf l := fun j hj => endOf_ge hj
  obtain ⟨E, hEE⟩ : ∃ E : Nat, endOf l = E := ⟨(endOf l).toNat, by omega⟩
  have hall := all_any A0 b0 o0 c0 l w R hT
  rw [hok] at hall
  have hend : ∀ W, Below w.heap.size w W → Calls Tryd.prog 24 #[.slice A0 l.length c0] W fun e w' => e = .returned (.int .i64 E) ∧ Below W.heap.size W w' := fun W hW => by
    have := end_any A0 b0 o0 c0 l W (R.below hW) (hT.below hW) hok
    rw [hEE] at this
    exact this
  have hrun : ∀ W, Below w.heap.size w W → _ := fun W hW => runCharge_any (c0 := c0) W (R.below hW) (hT.below hW) hok hl20 E (by omega)
  have hmeet : Rob.meetsAll l ↔ ∀ i, i < l.length → (Rob.jb l i).charge ≤ ((((Rob.edfAt l Job.charge E).2.take (Rob.jb l i).dl.toNat).count (i : Int) : Nat) : Int) := by
    unfold Rob.meetsAll; rw [hEE, Int.toNat_natCast]
  obtain ⟨t, ht⟩ : ∃ t, t = (Rob.edfAt l Job.charge E).2 := ⟨_, rfl⟩
  have htl : t.length = E := by rw [ht]; exact (Rob.einv_at l Job.charge E).tlen
  rw [hEE] at hEd hE1
  rw [← ht] at hrun hmeet
  obtain ⟨n, hn'⟩ : ∃ n, n = l.length := ⟨_, rfl⟩
  have HN := hide hn'
  have HALL : Aside0 _ := ⟨hall⟩
  have HEND : Aside0 _ := ⟨hend⟩
  have HRUN : Aside0 _ := ⟨hrun⟩
  have HMEET := hide hmeet
  have HR : Aside0 _ := ⟨R⟩
  have HT : Aside0 _ := ⟨hT⟩
  have HOKJ := hide hokj
  have HED := hide hEd
  have HTL := hide htl
  rw [← hn'] at hn hl20 HALL HEND HRUN ⊢
  clear hn' hall hend hrun hmeet R hT hok hokj hE0 hEE ht htl hEd
  go_enter Tryd.func21, Tryd.ntmps21
  go_wp2_with (first | (go_at_call 41; refine HALL.out.mono ?_; rintro e w1 ⟨rfl, hb1⟩) | (go_at_call 24; refine (HEND.out w1 hb1).mono ?_; rintro e w2 ⟨rfl, hb2⟩) | (go_at_call 58; refine (HRUN.out w2 (below_then hb1 hb2)).mono ?_; rintro e w3 ⟨hb3, A', c', rfl, ho3⟩; have HO3 : Aside0 _ := ⟨ho3⟩; have HB3 : Aside0 _ := ⟨below_then (below_then hb1 hb2) hb3⟩; clear ho3 hb3 hb1 hb2))
  obtain ⟨bt, hRI⟩ : ∃ bt, RdInts w3 A' bt 0 t := by
    have ho := HO3.out
    rw [← HTL.out] at ho
    exact rdi_own ho (by rw [HTL.out]; omega)
  have hcapE : E ≤ c' := by
    rcases HO3.out.2 with ⟨h0, hn0⟩ | ⟨g', cap', cur, hv, -, -, hle, -, -, -⟩
    · omega
    · simp only [Value.slice.injEq] at hv
      omega
  have hcap2 : c' ≤ 9223372036854775807 := by
    rcases HO3.out.2 with ⟨h0, hn0⟩ | ⟨g', cap', cur, hv, -, -, -, hmx, -, -⟩
    · simp only [Value.slice.injEq] at h0
      omega
    · simp only [Value.slice.injEq] at hv
      unfold maxLen at hmx
      omega
  have HRI : Aside0 _ := ⟨hRI⟩
  clear hRI
  go_loopw [4, 5, 15] (fun _ _ q wr => ∃ k : Nat, k ≤ n ∧ q = .int .i64 k ∧ Below w3.heap.size w3 wr ∧ Hid (∀ i, i < k → (Rob.jb l i).charge ≤ (((t.take (Rob.jb l i).dl.toNat).count (i : Int) : Nat) : Int))) (fun _ _ q _ => n - (intOf q).toNat)
  case atStart => exact ⟨0, by omega, rfl, Below.refl _ _, fun i hi => by omega⟩
  case round =>
    obtain ⟨k, hk, rfl, hb, HK⟩ := hrel
    by_cases hlt : k < n
    · have hkl : k < l.length := by rw [← HN.out]; exact hlt
      have hbw := below_then HB3.out hb
      have hRw := HR.out.below hbw
      have hAA := hRw.addr (by omega)
      subst hAA
      obtain ⟨j0, j1, j2, j3, j4, j5, j6, j7⟩ := hRw.row k hkl
      have hnm := hRw.names _ (Rob.jb_mem hkl)
      have hokk := HOKJ.out _ (Rob.jb_mem hkl)
      have hO := Job.ok_of_good hokk
      have hdlE := HED.out _ (Rob.jb_mem hkl)
      have hd0 : 0 < (Rob.jb l k).dl := by have := hO.rel0; have := hO.rel1; omega
      have hTw := HT.out.below hbw
      have hnext : (Rob.jb l k).charge ≤ (((t.take (Rob.jb l k).dl.toNat).count (k : Int) : Nat) : Int) → ∀ i, i < k + 1 → (Rob.jb l i).charge ≤ (((t.take (Rob.jb l i).dl.toNat).count (i : Int) : Nat) : Int) := fun h i hi => by
        by_cases e : i = k
        · subst e; exact h
        · exact HK.out i (by omega)
      have HNEXT := hide hnext
      obtain ⟨d, hd⟩ : ∃ d : Nat, (Rob.jb l k).dl = d := ⟨(Rob.jb l k).dl.toNat, by omega⟩
      have hat : A' = some ⟨bt, 0, none⟩ := HRI.out.addr (by rw [HTL.out]; omega)
      subst hat
      have hdE : d ≤ E := by omega
      have hdp : 0 < d := by omega
      have hRt : ∀ W, Below w3.heap.size w3 W → Calls Tryd.prog 20 #[.slice (some ⟨bt, 0, none⟩) d c', .int .i64 k] W fun e w' => e = .returned (.int .i64 (ranIn (t.take d) k)) ∧ W = w' := fun W hW => by
        have hr := HRI.out.below hW
        have hlen : (t.take d).length = d := by rw [List.length_take, HTL.out]; omega
        have := ran_any (some ⟨bt, 0, none⟩) bt 0 c' (t.take d) k W ⟨by omega, fun _ => rfl, fun h => hr.lt (by rw [HTL.out]; omega), fun i hi => by
          rw [hr.c i (by rw [HTL.out]; omega)]
          have : (t.take d).getD i 0 = t.getD i 0 := by
            simp only [List.getD_eq_getElem?_getD]; rw [List.getElem?_take_of_lt (by omega)]
          rw [this]⟩
        rw [hlen] at this
        exact this
      have HRT : Aside0 _ := ⟨hRt⟩
      rw [hd] at HNEXT j2
      rw [Int.toNat_natCast] at HNEXT
      obtain ⟨j, hj⟩ : ∃ j, j = Rob.jb l k := ⟨_, rfl⟩
      rw [← hj] at j0 j1 j3 j4 j5 j6 j7 hnm hokk hd HNEXT
      rw [← hd] at j2
      have HD := hide hd
      clear hj hO hnext hRt hRw hdlE hd
      go_wp2_with fail
      obtain ⟨W5, hW, hb5, hk5, e0, e1, e2, e3, e4, e5, e6, e7⟩ := jbox wr j
      rw [hW]
      simp only [Nat.zero_add] at e0 e1 e2 e3 e4 e5 e6 e7
      have hcs := bw_cells W5
      have hb35 := below_then hb hb5
      have hran := fun p : BW W5 => calls_bw_same p (HRT.out p.W (below_then hb35 p.h))
      have hT5 := hTw.below hb5
      have hch := fun p : BW W5 => calls_bw p (charge_any j.name j.rel j.dl j.bud j.act j.val j.cln j.hard p.W hnm (hT5.below p.h) hokk)
      have HRAN2 : Aside0 _ := ⟨hran⟩
      have HCH : Aside0 _ := ⟨hch⟩
      have hcj : j.charge = j.bud + j.cln := rfl
      rw [hcj] at HNEXT
      generalize j.bud + j.cln = cg at HCH HNEXT
      have hrn : ranIn (t.take d) k = (((t.take d).count (k : Int) : Nat) : Int) := rfl
      rw [← hrn] at HNEXT
      generalize ranIn (t.take d) k = rn at HRAN2 HNEXT
      have HB35 : Aside0 _ := ⟨hb35⟩
      clear hran hch hcj hrn hT5 hTw hW j0 j1 j2 j3 j4 j5 j6 j7 hnm hokk
      rw [HD.out] at e2 HCH
      have hslice := slice_to bt E c' d (by omega) hcap2 hdp
      by_cases hlt2 : rn < cg
      · have hdd : decide (rn < cg) = true := decide_eq_true hlt2
        refine wp_region_bw mixed (by kernel_rfl) ?_
        repeat (go_big_quiet_step (first | (go_at_call 20; exact HRAN2.out _) | (go_at_call 59; exact HCH.out _)))
        refine wpQuiet_nil ?_
        rintro w' ⟨p, rfl⟩
        go_wp2
        go_ret
        exact ⟨below_then HB3.out (below_then HB35.out p.h), false, rfl, fun h => by cases h⟩
      · have hdd : decide (rn < cg) = false := decide_eq_false hlt2
        refine wp_region_bw mixed (by kernel_rfl) ?_
        repeat (go_big_quiet_step (first | (go_at_call 20; exact HRAN2.out _) | (go_at_call 59; exact HCH.out _)))
        refine wpQuiet_nil ?_
        rintro w' ⟨p, rfl⟩
        go_wp2
        go_roundw
        case rel => exact ⟨k + 1, by omega, by go_num, below_then HB35.out p.h, HNEXT.out (by omega)⟩
        case measure => simp [intOf]; omega
    · have hfin : Rob.meetsAll l := HMEET.out.2 (fun i hi => HK.out i (by have := HN.out; omega))
      have HF := hide hfin
      clear hfin
      go_wp2
      go_ret
      exact ⟨below_then HB3.out hb, true, rfl, fun _ => HF.out⟩
end
end Go.Proofs.YtjgegnjclmkpeaaDoor
