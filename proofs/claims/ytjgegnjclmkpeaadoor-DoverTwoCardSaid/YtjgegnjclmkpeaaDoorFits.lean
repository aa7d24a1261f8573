/- Package edf's Fits; the robust runner's fits. -/
import Derived.Test.YtjgegnjclmkpeaaDoorSlackWalk
import Derived.Test.YtjgegnjclmkpeaaDoorRobW4
import Derived.Deep.RegionWith
import Derived.Deep.RegionLaw
import Derived.Deep.AppendLies
import Derived.Lib.SmallJoins
set_option linter.unusedVariables false
set_option linter.unusedSimpArgs false
namespace Go.Proofs.YtjgegnjclmkpeaaDoor
open Go.RowKit Go.Sort Go.Proofs

theorem edfFits_any (now : Int) (A : Option Addr) (b off c : Nat) (l : List Left) (w : World) (R : RdLefts w A b off l) (hl20 : l.length < 20) :
    Calls Tryd.prog 131 #[.int .i64 now, .slice A l.length c] w fun e w' => e = .returned (.bool (fitsB now l)) ∧ Below w.heap.size w w' := by
  have hF : fitsB now l = (edfMay now l && l.all fun x => decide (needTo x.dl l ≤ x.dl - now)) := rfl
  have HF := hide hF
  clear hF
  have hC : Aside0 _ := ⟨slack_any now A b off c l w R hl20⟩
  have hM : Aside0 (∀ W, Below w.heap.size w W → Calls Tryd.prog 157 #[.int .i64 now, .slice A l.length c] W fun e w' => e = .returned (.bool (edfMay now l)) ∧ Below W.heap.size W w') := ⟨fun W hW => may_any now A b off c l W (R.below hW)⟩
  have hemp : l = [] → (l.all fun x => decide (needTo x.dl l ≤ x.dl - now)) = true := fun h => by rw [h]; rfl
  have HEMP : Aside0 _ := ⟨hemp⟩
  clear R hemp
  go_enter Tryd.func131, Tryd.ntmps131
  go_wp2_with fail
  refine hC.out.mono ?_
  rintro e w1 ⟨r, ok, rfl, hb1, hcase⟩
  have hM1 := hM.out w1 hb1
  have HB1 : Aside0 _ := ⟨hb1⟩
  clear hM hC hb1
  rcases hcase with ⟨rfl, hc⟩ | ⟨rfl, hm, hr⟩
  · cases hm : edfMay now l with
    | true =>
      have hl : l = [] := hc.resolve_right (by rw [hm]; simp)
      have HL := hide hl
      rw [hm] at hM1
      clear hc hl
      have hM2 : Aside0 _ := ⟨hM1⟩
      clear hM1
      go_wp2_with (go_at_call 157; refine hM2.out.mono ?_; rintro e w2 ⟨rfl, hb2⟩)
      go_ret
      exact ⟨ret_bool (by rw [HF.out, hm, HEMP.out HL.out]; rfl), below_then HB1.out hb2⟩
    | false =>
      rw [hm] at hM1
      clear hc
      have hM2 : Aside0 _ := ⟨hM1⟩
      clear hM1
      go_wp2_with (go_at_call 157; refine hM2.out.mono ?_; rintro e w2 ⟨rfl, hb2⟩)
      go_ret
      exact ⟨ret_bool (by rw [HF.out, hm]; rfl), below_then HB1.out hb2⟩
  · rw [hm] at hM1
    have hM2 : Aside0 _ := ⟨hM1⟩
    have HM := hide hm
    have HR := hide hr
    clear hM1 hm hr
    by_cases h0 : 0 ≤ r
    all_goals
      go_wp2_with (go_at_call 157; refine hM2.out.mono ?_; rintro e w2 ⟨rfl, hb2⟩)
      go_ret
      exact ⟨ret_bool (by rw [HF.out, HM.out, ← HR.out]; simp [h0]), below_then HB1.out hb2⟩
theorem cells2 (a b : Int) : ∀ u ∈ [Value.int .i64 a, .int .i64 b], u.oneCell' = true := by
  intro u hu; simp at hu; rcases hu with rfl | rfl <;> rfl
theorem own_drewBelow {w w2 : World} {B n sz : Nat} {e : TypeId} {v : Value} {xs : List Value} (h : w.ownsRow B e sz v n xs) (hb : Below w.drew.heap.size w.drew w2) : w2.ownsRow B e sz v n xs :=
  h.drew.kept (row := none) (grown_of_below hb none) (by cases v.ownBlock <;> simp)
theorem size_drewBelow {w w2 : World} {B : Nat} (h : B ≤ w.heap.size) (hb : Below w.drew.heap.size w.drew w2) (o : Obj) : B ≤ (w2.alloc o).heap.size :=
  Nat.le_trans h (Nat.le_trans hb.size (by show w2.heap.size ≤ (w2.heap.push o).size; simp))
theorem below_own_grown {w W w' : World} {n sz : Nat} {e : TypeId} {v : Value} {xs : List Value} (hb : Below w.heap.size w W) (ho : W.ownsRow w.heap.size e sz v n xs) (hg : W.grownBy w' v.ownBlock) : Below w.heap.size w w' :=
  ⟨hg.os.trans hb.os, hg.tape.trans hb.tape, hg.output.trans hb.output, Nat.le_trans hb.size hg.size, fun i hi => (hg.block i (Nat.lt_of_lt_of_le hi hb.size) (fun he => by have := (ho.lt i he.symm).1; omega)).trans (hb.block i hi)⟩
theorem flatL_snoc (l : List Left) (x : Left) : flatL (l ++ [x]) = flatL l ++ [.int .i64 x.dl, .int .i64 x.need] := by
  rw [flatL, List.flatMap_append]; rfl
/-- An owned row is a slice to read. -/
theorem rdl_own {w : World} {B : Nat} {v : Value} {l : List Left} (h : w.ownsRow B 173 2 v l.length (flatL l)) (hl : l.length < 20) : ∃ A b c, v = .slice A l.length c ∧ RdLefts w A b 0 l := by
  rcases Joins.ownsRow_forms h with ⟨rfl, h0⟩ | ⟨g, cap, rfl⟩
  · exact ⟨none, 0, 0, by rw [h0], ⟨by omega, fun h => by omega, fun h => by omega, fun i h => by omega, fun i h => by omega⟩⟩
  · refine ⟨_, g, cap, rfl, ⟨by omega, fun _ => rfl, fun _ => (h.lt g rfl).2, fun i hi => ?_, fun i hi => ?_⟩⟩
    · rw [Nat.zero_add, h.cellAt _ (by omega)]; exact (flatL_at l i hi).1
    · rw [Nat.zero_add, h.cellAt _ (by omega)]; exact (flatL_at l i hi).2
section
variable {w0 w : World} {g : Nat} {A0 : Option Addr} {b0 o0 c0 : Nat} {l : List Job} {v : RV} {t : Int} {s : RS}
theorem lefts_succ (k : Nat) : ((List.range (k + 1)).filter fun i => Rob.opn s i 1).map (fun i => (⟨(Rob.jb l i).dl, Rob.need l s i⟩ : Left)) = ((List.range k).filter fun i => Rob.opn s i 1).map (fun i => (⟨(Rob.jb l i).dl, Rob.need l s i⟩ : Left)) ++ (if Rob.opn s k 1 then [⟨(Rob.jb l k).dl, Rob.need l s k⟩] else []) := by
  rw [List.range_succ, List.filter_append, List.map_append]
  congr 1
  cases h : Rob.opn s k 1 <;> simp [h]
set_option maxHeartbeats 4000000 in
set_option maxRecDepth 100000 in
theorem fits_any (h : RAt w0 w g A0 b0 o0 c0 l v t s) (hT : Tabs w0) (F : Fine l t s) (hl20 : l.length < 20) (now : Int) :
    Calls Tryd.prog 96 #[.pointer (some ⟨g, 0, none⟩), .int .i64 now] w fun e w' => e = .returned (.bool (Rob.fits l s now)) ∧ Below w.heap.size w w' := by
  have hn := h.jobs.len
  have mixed : Tryd.prog.follows .mixedOrders = true := by kernel_rfl
  obtain ⟨n, hn'⟩ : ∃ n, n = l.length := ⟨_, rfl⟩
  have HN := hide hn'
  obtain ⟨h0, -, -, -, -, -, -, -⟩ := h.cells
  rw [← hn'] at hn h0 hl20
  clear hn'
  have HH : Aside0 _ := ⟨h⟩
  have FF : Aside0 _ := ⟨F⟩
  clear h F
  go_enter Tryd.func96, Tryd.ntmps96
  go_wp2
  clear h0
  go_loopw [5, 6, 7, 13] (fun x _ _ i wr => ∃ k : Nat, k ≤ n ∧ i = .int .i64 k ∧ Below w.heap.size w wr ∧ ∃ xs : List Left, xs.length ≤ k ∧ Aside0 (wr.ownsRow w.heap.size 173 2 x xs.length (flatL xs)) ∧ Hid (xs = ((List.range k).filter fun i => Rob.opn s i 1).map (fun i => (⟨(Rob.jb l i).dl, Rob.need l s i⟩ : Left)))) (fun _ _ _ i _ => n - (intOf i).toNat)
  case atStart => exact ⟨0, by omega, rfl, Below.refl _ _, [], by simp, ⟨World.ownsRow_nil _ _ _ _⟩, rfl⟩
  case round =>
    obtain ⟨k, hk, rfl, hb, xs, hxk, HO, HX⟩ := hrel
    by_cases hlt : k < n
    · have hkl : k < l.length := by rw [← HN.out]; exact hlt
      have hR := HH.out.below hb
      obtain ⟨hA, ⟨j0, j1, j2, j3, j4, j5, j6, j7⟩, hb0, -⟩ := hR.job k hkl
      subst hA
      have HB : Aside0 _ := ⟨hb⟩
      have HS := hide (lefts_succ (l := l) (s := s) k)
      have hok := FF.out.job hkl
      clear hb
      obtain ⟨j, hj⟩ : ∃ j, j = Rob.jb l k := ⟨_, rfl⟩
      have HJ := hide hj
      rw [← hj] at j0 j1 j2 j3 j4 j5 j6 j7
      clear hj
      go_wp2_with fail
      obtain ⟨W1, hW, hb1, hk1, e0, e1, e2, e3, e4, e5, e6, e7⟩ := jbox wr j
      rw [hW]
      have hR1 := hR.below hb1
      have hb2 := below_then HB.out hb1
      have HO1 : Aside0 _ := ⟨HO.out.kept (grown_of_below hb1 none) (by cases u5.ownBlock <;> simp)⟩
      have HR1 : Aside0 _ := ⟨hR1⟩
      have HB2 : Aside0 _ := ⟨hb2⟩
      have hopen : Aside0 _ := ⟨open_any hR1 k hkl 1⟩
      clear hW j0 j1 j2 j3 j4 j5 j6 j7 hb0 hR hb1 hb2 hR1 HB e0 e1 e3 e4 e5 e6 e7 HO
      cases ho : Rob.opn s k 1 with
      | false =>
        rw [ho] at hopen HS
        clear ho
        go_wp2_with (go_at_call 55; refine hopen.out.mono ?_; rintro e w' ⟨rfl, rfl⟩)
        go_roundw
        case rel => exact ⟨k + 1, by omega, by go_num, HB2.out, xs, by omega, HO1, by show _ = _; rw [HS.out, ← HX.out]; simp⟩
        case measure => simp [intOf]; omega
      | true =>
        rw [ho] at hopen HS
        clear ho
        go_wp2_with (go_at_call 55; refine hopen.out.mono ?_; rintro e w' ⟨rfl, rfl⟩)
        have hneed : ∀ W, Below W1.heap.size W1 W → Calls Tryd.prog 95 #[.pointer (some ⟨g, 0, none⟩), .int .i64 k] W fun e w' => e = .returned (.int .i64 (Rob.need l s k)) ∧ Below W.heap.size W w' :=
          fun W hW => need_any (HR1.out.below hW) hT k hkl hok (FF.out.ran k hkl).1 (by have := (FF.out.ran k hkl).2; omega)
        have HNEED : Aside0 _ := ⟨hneed⟩
        have hxs : xs.length + 1 ≤ 20 := by omega
        obtain ⟨i0, hi, hzz⟩ := Option.map_eq_some_iff.1 (show (Tryd.prog.info? 173).map (fun i => (i.zero, i.size, i.bytes)) = some (some (.agg #[.int .i64 0, .int .i64 0]), 2, 16) by kernel_rfl)
        simp only [Prod.mk.injEq] at hzz
        obtain ⟨hz0, hz1, hz2⟩ := hzz
        have HI : Aside0 _ := ⟨And.intro hi (And.intro hz0 (And.intro hz1 hz2))⟩
        have hsz1 : w.heap.size ≤ W1.heap.size := HB2.out.size
        clear hneed hi hz0 hz1 hz2
        generalize Rob.need l s k = nd at HNEED HS
        go_region_law (first | (go_simp; go_at_call 95; refine (HNEED.out W1.drew ((Below.refl _ _).drew)).mono ?_; rintro e w2 ⟨rfl, hb2⟩; have e2' := (hb2.cell (p := ⟨wr.heap.size, 2, none⟩) hk1).trans e2; have ho2 := own_drewBelow HO1.out hb2; have hs2 := size_drewBelow hsz1 hb2 (.cells #[.int .i64 j.dl, .int .i64 nd] 173 (0, 0))) | (refine step_append_lies _ (by rfl) (.tmp 21) (.tmp 28) 171 (by rfl) w.heap.size 173 i0 (.agg #[.int .i64 0, .int .i64 0]) 2 16 Tryd.underlying171 HI.out.1 HI.out.2.1 HI.out.2.2.1 HI.out.2.2.2 (by rfl) (by omega) u5 xs.length (flatL xs) (by rfl) (ho2.alloc _) ⟨w2.heap.size, 0, none⟩ 1 1 [.int .i64 j.dl, .int .i64 nd] (by rfl) (by rfl) (World.news_of_block (heap_alloc_new w2 _)) (cells2 j.dl nd) (by omega) (by unfold maxLen; omega) (by omega) hs2 _ (by rfl) ?_; intro g2 cap2 w3 ho3 hg3 hat3 hlt3))
        all_goals
          have hb3 : Below w.heap.size w w3 := below_own_grown (below_alloc (below_then HB2.out ((Below.refl _ _).drew.trans hb2)) _) (ho2.alloc _) hg3
          have HB3 : Aside0 _ := ⟨hb3⟩
          have HO3 : Aside0 _ := ⟨ho3⟩
          clear hb3 ho3 hg3 hat3 ho2 hs2 e2' hb2 e2
          go_wp2
          go_roundw
          case rel => exact ⟨k + 1, by omega, by go_num, HB3.out, xs ++ [⟨j.dl, nd⟩], by simp; omega, ⟨by rw [flatL_snoc, List.length_append]; exact HO3.out⟩, by show _ = _; rw [HS.out, ← HX.out, HJ.out]; simp⟩
          case measure => simp [intOf]; omega
    · obtain rfl : k = n := by omega
      have hX := HX.out
      have hlf : xs = Rob.lefts l s := by rw [hX]; unfold Rob.lefts; rw [HN.out]
      obtain ⟨A, b, c, rfl, hR⟩ := rdl_own HO.out (by omega)
      have hcall : Aside0 _ := ⟨edfFits_any now A b 0 c xs wr hR (by omega)⟩
      have HL := hide hlf
      have HB : Aside0 _ := ⟨hb⟩
      clear hR hlf hX hb HX HO
      generalize xs.length = m at hcall
      go_wp2_with (go_at_call 131; refine hcall.out.mono ?_; rintro e w' ⟨rfl, hb'⟩)
      go_ret
      exact ⟨ret_bool (by rw [HL.out]; rfl), below_then HB.out hb'⟩
end
end Go.Proofs.YtjgegnjclmkpeaaDoor
