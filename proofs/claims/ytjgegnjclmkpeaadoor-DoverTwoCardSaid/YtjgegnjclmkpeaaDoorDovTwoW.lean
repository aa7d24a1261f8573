/- The statement DoverTwo: the walk. -/
import Derived.Test.YtjgegnjclmkpeaaDoorDovTrace
import Derived.Test.YtjgegnjclmkpeaaDoorTraceVal
set_option linter.unusedVariables false
set_option linter.unusedSimpArgs false
namespace Go.Proofs.YtjgegnjclmkpeaaDoor
open Go.RowKit Go.Sort Go.Proofs

def jagg (j : Job) : Value := .agg #[.string j.name, .int .i64 j.rel, .int .i64 j.dl, .int .i64 j.bud, .int .i64 j.act, .int .i64 j.val, .int .i64 j.cln, .bool j.hard]
/-- The box of two jobs. -/
theorem jbox2 (w : World) (a b : Job) (ha : a.name.size ≤ 140737488351232) (hb : b.name.size ≤ 140737488351232) : ∃ W, w.alloc (.cells #[.string a.name, .int .i64 a.rel, .int .i64 a.dl, .int .i64 a.bud, .int .i64 a.act, .int .i64 a.val, .int .i64 a.cln, .bool a.hard, .string b.name, .int .i64 b.rel, .int .i64 b.dl, .int .i64 b.bud, .int .i64 b.act, .int .i64 b.val, .int .i64 b.cln, .bool b.hard] 39 (0, 0)) = W ∧
    Below w.heap.size w W ∧ RdJobs W (some ⟨w.heap.size, 0, none⟩) w.heap.size 0 [a, b] := by
  refine ⟨_, rfl, below_alloc (Below.refl _ w) _, ⟨by simp, fun j hj => ?_, fun _ => rfl, fun _ => by simp, fun i hi => ?_⟩⟩
  · simp only [List.mem_cons, List.not_mem_nil, or_false] at hj
    rcases hj with rfl | rfl
    · exact ha
    · exact hb
  · have hi2 : i < 2 := hi
    rcases (by omega : i = 0 ∨ i = 1) with rfl | rfl
    · constructor <;> simp <;> rfl
    · constructor <;> simp <;> rfl
set_option maxHeartbeats 4000000 in
set_option maxRecDepth 100000 in
theorem doverTwo_any (p q : Int) (ja jb : Job) (A3 : Option Addr) (n3 c3 : Nat) (w : World) (ha : ja.name.size ≤ 140737488351232) (hb : jb.name.size ≤ 140737488351232) (hT : Tabs w) (hn3 : n3 ≤ 140737488351232) (h3 : n3 ≤ 10000 → ∃ b off, ∃ t : List Int, t.length = n3 ∧ RdInts w A3 b off t) :
    Calls Tryd.prog 7 #[.agg #[.int .i64 p, .int .i64 q], jagg ja, jagg jb, .slice A3 n3 c3] w fun e w' => e = .returned (.bool true) ∧ Below w.heap.size w w' := by
  have mixed : Tryd.prog.follows .mixedOrders = true := by kernel_rfl
  have hrule : ∀ W, Calls Tryd.prog 27 #[.agg #[.int .i64 p, .int .i64 q]] W fun e w' => e = .returned (.bool (ruleB p q)) ∧ Below W.heap.size W w' := fun W => rule_any p q W
  have HRU : Aside0 _ := ⟨hrule⟩
  obtain ⟨W0, hW0⟩ : ∃ W0, W0 = ((w.alloc (.cells #[.int .i64 p, .int .i64 q] 45 (0, 0))).alloc (.cells #[.string ja.name, .int .i64 ja.rel, .int .i64 ja.dl, .int .i64 ja.bud, .int .i64 ja.act, .int .i64 ja.val, .int .i64 ja.cln, .bool ja.hard] 39 (0, 0))).alloc (.cells #[.string jb.name, .int .i64 jb.rel, .int .i64 jb.dl, .int .i64 jb.bud, .int .i64 jb.act, .int .i64 jb.val, .int .i64 jb.cln, .bool jb.hard] 39 (0, 0)) := ⟨_, rfl⟩
  have hb0 : Below w.heap.size w W0 := by rw [hW0]; exact below_alloc (below_alloc (below_alloc (Below.refl _ w) _) _) _
  have hrc : ∀ W, Below W0.heap.size W0 W → (W.cell? ⟨w.heap.size, 0, none⟩ = some (.int .i64 p) ∧ W.cell? ⟨w.heap.size, 1, none⟩ = some (.int .i64 q)) ∧ Row W (w.heap.size + 1) 0 ja ∧ Row W (w.heap.size + 1 + 1) 0 jb := fun W hW => by
    obtain ⟨Wa, hWa⟩ : ∃ Wa, Wa = w.alloc (.cells #[.int .i64 p, .int .i64 q] 45 (0, 0)) := ⟨_, rfl⟩
    have sa : Wa.heap.size = w.heap.size + 1 := by rw [hWa]; simp
    have ea : Wa.cell? ⟨w.heap.size, 0, none⟩ = some (.int .i64 p) ∧ Wa.cell? ⟨w.heap.size, 1, none⟩ = some (.int .i64 q) := by rw [hWa]; simp
    obtain ⟨Wb, hWb, bb, -, rb⟩ := jbox Wa ja
    have sb : Wb.heap.size = w.heap.size + 1 + 1 := by rw [← hWb]; simp; omega
    obtain ⟨Wc, hWc, bc, -, rc⟩ := jbox Wb jb
    have hW0' : W0 = Wc := by rw [hW0, ← hWa, hWb, hWc]
    have sc : W0.heap.size = w.heap.size + 1 + 1 + 1 := by rw [hW0', ← hWc]; simp; omega
    subst hW0'
    have e1 : Below Wb.heap.size Wb W := below_then bc hW
    have e2 : Below Wa.heap.size Wa W := below_then bb e1
    refine ⟨⟨(e2.cell (p := ⟨w.heap.size, 0, none⟩) (by show w.heap.size < _; omega)).trans ea.1, (e2.cell (p := ⟨w.heap.size, 1, none⟩) (by show w.heap.size < _; omega)).trans ea.2⟩, ?_, ?_⟩
    · have := rb.same (w' := W) (e1.block _ (by omega))
      rw [sa] at this; exact this
    · have := rc.same (w' := W) (hW.block _ (by omega))
      rw [sb] at this; exact this
  have HAW : Aside0 _ := ⟨awake19_any W0 (hT.below hb0)⟩
  have HB0 : Aside0 _ := ⟨hb0⟩
  have HRC : Aside0 _ := ⟨hrc⟩
  have HW0 := hide hW0
  have HT : Aside0 _ := ⟨hT⟩
  have H3 := hide h3
  have HA := hide ha
  have HB := hide hb
  clear hb0 hrc hW0 hrule hT h3 ha hb
  unfold jagg
  go_enter Tryd.func7, Tryd.ntmps7
  go_wp2_with (go_at_call 25; rw [← HW0.out]; refine HAW.out.mono ?_; rintro e w1 ⟨rfl, hb1⟩; obtain ⟨⟨c0, c1⟩, ⟨x0, x1, x2, x3, x4, x5, x6, x7⟩, ⟨y0, y1, y2, y3, y4, y5, y6, y7⟩⟩ := HRC.out w1 hb1)
  obtain ⟨W2, hW2, hb2, hR2⟩ := jbox2 w1 ja jb HA.out HB.out
  rw [hW2]
  have hb12 := below_then hb1 hb2
  have hbw2 := below_then HB0.out hb12
  have hT2 := HT.out.below hbw2
  have HB2 : Aside0 _ := ⟨hbw2⟩
  have HRC2 : Aside0 (∀ W, Below W2.heap.size W2 W → W.cell? ⟨w.heap.size, 0, none⟩ = some (.int .i64 p) ∧ W.cell? ⟨w.heap.size, 1, none⟩ = some (.int .i64 q)) := ⟨fun W hW => (HRC.out W (below_then hb12 hW)).1⟩
  obtain ⟨bl, hbl⟩ : ∃ bl, bl = w1.heap.size := ⟨_, rfl⟩
  rw [← hbl] at hR2 ⊢
  have H3' : Hid (n3 ≤ 10000 → ∃ b off, ∃ t : List Int, t.length = n3 ∧ RdInts W2 A3 b off t) := hide (fun h => by
    obtain ⟨b, off, t, hl, hR⟩ := H3.out h
    exact ⟨b, off, t, hl, hR.below hbw2⟩)
  clear hW2 hb1 hb2 hb12 hbw2 c0 c1 x0 x1 x2 x3 x4 x5 x6 x7 y0 y1 y2 y3 y4 y5 y6 y7 HAW HRC HW0 H3 hbl
  obtain ⟨l, hl⟩ : ∃ l, l = [ja, jb] := ⟨_, rfl⟩
  rw [← hl] at hR2
  have hll : l.length = 2 := by rw [hl]; rfl
  have hgood : ∀ W, Below W2.heap.size W2 W → Calls Tryd.prog 26 #[.slice (some ⟨bl, 0, none⟩) 2 2] W fun e w' => e = .returned (.bool (!(heavyB 12 300 l) && allOk l)) ∧ Below W.heap.size W w' := fun W hW => by
    have := good19_any (some ⟨bl, 0, none⟩) bl 0 2 l W (hR2.below hW) (hT2.below hW)
    rw [hll] at this; exact this
  have HGOOD : Aside0 _ := ⟨hgood⟩
  have hjb : Rob.jb l 0 = ja ∧ Rob.jb l 1 = jb := by rw [hl]; exact ⟨rfl, rfl⟩
  have HJB := hide hjb
  have HLL := hide hll
  have HR2 : Aside0 _ := ⟨hR2⟩
  have HT2 : Aside0 _ := ⟨hT2⟩
  clear hl hgood hjb hll hR2 hT2
  cases hg : (!(heavyB 12 300 l) && allOk l) with
  | false =>
    rw [hg] at HGOOD
    clear hg
    go_at_call 26
    refine (HGOOD.out W2 (Below.refl _ _)).mono ?_
    rintro e w3 ⟨rfl, hb3⟩
    go_wp2
    go_ret
    exact ⟨rfl, below_then HB2.out hb3⟩
  | true =>
    rw [hg] at HGOOD
    simp only [Bool.and_eq_true, Bool.not_eq_true'] at hg
    have hok := hg.2
    have HOK := hide hok
    clear hg hok
    cases hru : ruleB p q with
    | false =>
      rw [hru] at HRU
      clear hru
      go_at_call 26
      refine (HGOOD.out W2 (Below.refl _ _)).mono ?_
      rintro e w3 ⟨rfl, hb3⟩
      obtain ⟨c0, c1⟩ := HRC2.out w3 hb3
      go_wp2_with (go_at_call 27; refine (HRU.out w3).mono ?_; rintro e w4 ⟨rfl, hb4⟩)
      go_ret
      exact ⟨rfl, below_then HB2.out (below_then hb3 hb4)⟩
    | true =>
      rw [hru] at HRU
      have HRUE := hide hru
      clear hru
      -- the trace
      have htg : ∃ r : Bool, (r = true → ∃ b off, ∃ t : List Int, t.length = n3 ∧ RdInts W2 A3 b off t) ∧ ∀ W, Below W2.heap.size W2 W → Calls Tryd.prog 17 #[.slice (some ⟨bl, 0, none⟩) 2 2, .slice A3 n3 c3] W fun e w' => e = .returned (.bool r) ∧ Below W.heap.size W w' := by
        by_cases h : n3 ≤ 10000
        · obtain ⟨b, off, t, htl, hRt⟩ := H3'.out h
          refine ⟨traceOk l t, fun _ => ⟨b, off, t, htl, hRt⟩, fun W hW => ?_⟩
          have := traceGoodB_any (some ⟨bl, 0, none⟩) bl 0 2 l A3 b off c3 t W (HR2.out.below hW) (hRt.below hW) (HT2.out.below hW) HOK.out (by omega)
          rw [HLL.out, htl] at this; exact this
        · refine ⟨false, (fun h => by cases h), fun W hW => ?_⟩
          have := traceLong_any (some ⟨bl, 0, none⟩) bl 0 2 l A3 n3 c3 W (HR2.out.below hW) (HT2.out.below hW) HOK.out (by omega) hn3
          rw [HLL.out] at this; exact this
      obtain ⟨r, hrt, htg⟩ := htg
      have HTG : Aside0 _ := ⟨htg⟩
      have HRT := hide hrt
      clear htg hrt
      go_at_call 26
      refine (HGOOD.out W2 (Below.refl _ _)).mono ?_
      rintro e w3 ⟨rfl, hb3⟩
      obtain ⟨c0, c1⟩ := HRC2.out w3 hb3
      go_wp2_with (go_at_call 27; refine (HRU.out w3).mono ?_; rintro e w4 ⟨rfl, hb4⟩)
      go_at_call 17
      refine (HTG.out w4 (below_then hb3 hb4)).mono ?_
      rintro e w5 ⟨rfl, hb5⟩
      have HB5 : Aside0 (Below W2.heap.size W2 w5) := ⟨below_then (below_then hb3 hb4) hb5⟩
      clear c0 c1 hb3 hb4 hb5
      cases r with
      | false =>
        go_wp2
        go_ret
        exact ⟨rfl, below_then HB2.out HB5.out⟩
      | true =>
        obtain ⟨bt, ot, t, htl, hRt⟩ := HRT.out rfl
        have HTL := hide htl
        have HRTT : Aside0 _ := ⟨hRt⟩
        clear htl hRt HRT HTG HRU HGOOD H3'
        go_wp2
        go_loopw [10] (fun x wr => ∃ k : Nat, k ≤ 2 ∧ x = .int .i64 k ∧ Below w5.heap.size w5 wr ∧ Hid (∀ i, i < k → (Rob.jb l i).cln = 0 ∧ (Rob.jb l i).act = (Rob.jb l i).bud ∧ (Rob.jb l i).bud ≤ (Rob.jb l i).dl - (Rob.jb l i).rel)) (fun x _ => 2 - (intOf x).toNat)
        case atStart => exact ⟨0, by omega, rfl, Below.refl _ _, fun i hi => by omega⟩
        case round =>
          obtain ⟨k, hk, rfl, hb, HK⟩ := hrel
          by_cases hlt : k < 2
          · have hkl : k < l.length := by rw [HLL.out]; exact hlt
            obtain ⟨j0, j1, j2, j3, j4, j5, j6, j7⟩ := (HR2.out.below (below_then HB5.out hb)).row k hkl
            have hO := allGood_ok HOK.out _ (Rob.jb_mem hkl)
            have q1 := hO.rel0
            have q2 := hO.rel1
            have q3 := hO.dl1
            have hw1 : IntKind.i64.wrap ((Rob.jb l k).dl - (Rob.jb l k).rel) = (Rob.jb l k).dl - (Rob.jb l k).rel := by rw [IntKind.wrap_i64]; omega
            have hnx : (Rob.jb l k).cln = 0 → (Rob.jb l k).act = (Rob.jb l k).bud → (Rob.jb l k).bud ≤ (Rob.jb l k).dl - (Rob.jb l k).rel → ∀ i, i < k + 1 → (Rob.jb l i).cln = 0 ∧ (Rob.jb l i).act = (Rob.jb l i).bud ∧ (Rob.jb l i).bud ≤ (Rob.jb l i).dl - (Rob.jb l i).rel := fun a b c i hi => by
              by_cases e : i = k
              · subst e; exact ⟨a, b, c⟩
              · exact HK.out i (by omega)
            have HNX := hide hnx
            have hkz : (k : Int) < 2 := by omega
            clear hnx hO
            simp only [Nat.zero_add] at j0 j1 j2 j3 j4 j5 j6 j7
            generalize Rob.jb l k = j at *
            by_cases h1 : j.cln = 0
            · have h1b : (j.cln != 0) = false := by simp [h1]
              by_cases h2 : j.act = j.bud
              · have h2b : (j.act != j.bud) = false := by simp [h2]
                by_cases h4 : j.bud ≤ j.dl - j.rel
                · have h4b : decide (j.dl - j.rel < j.bud) = false := decide_eq_false (by omega)
                  have HH := hide (HNX.out h1 h2 h4)
                  rw [h1] at j6
                  rw [h2] at j4
                  clear h1 h1b h2 h2b h4
                  go_wp2_with fail
                  go_quiet (fail)
                  go_wp2
                  go_roundw
                  case rel => exact ⟨k + 1, by omega, by go_num, below_drewN hb _, HH⟩
                  case measure => simp [intOf]; omega
                · have h4b : decide (j.dl - j.rel < j.bud) = true := decide_eq_true (by omega)
                  rw [h1] at j6
                  rw [h2] at j4
                  clear h1 h1b h2 h2b h4
                  go_wp2_with fail
                  go_quiet (fail)
                  go_wp2
                  go_ret
                  exact ⟨rfl, below_then HB2.out (below_then HB5.out (below_drewN hb _))⟩
              · have h2b : (j.act != j.bud) = true := by simpa using h2
                rw [h1] at j6
                clear h1 h1b h2
                go_wp2_with fail
                go_quiet (fail)
                go_wp2
                go_ret
                exact ⟨rfl, below_then HB2.out (below_then HB5.out (below_drewN hb _))⟩
            · have h1b : (j.cln != 0) = true := by simpa using h1
              clear h1
              go_wp2_with fail
              go_quiet (fail)
              go_wp2
              go_ret
              exact ⟨rfl, below_then HB2.out (below_then HB5.out (below_drewN hb _))⟩
          · obtain rfl : k = 2 := by omega
            obtain ⟨hpq, hqp⟩ := pq_of_rule HRUE.out
            have h2 : Dov.Two l := ⟨HLL.out, allGood_ok HOK.out, fun i hi => (HK.out i hi).1, fun i hi => (HK.out i hi).2.1, fun i hi => (HK.out i hi).2.2⟩
            have hv := valueOf_bd l t (allGood_ok HOK.out) l.length (Nat.le_refl _)
            have hvl : Dov.valueOf l t ≤ (Rob.jb l 0).val + (Rob.jb l 1).val := by
              have v0 := (Rob.jb_ok (allGood_ok HOK.out) (show 0 < l.length by rw [HLL.out]; omega)).val0
              have v1 := (Rob.jb_ok (allGood_ok HOK.out) (show 1 < l.length by rw [HLL.out]; omega)).val0
              unfold Dov.valueOf
              rw [HLL.out]
              show (if Dov.metBy l t 1 then (if Dov.metBy l t 0 then 0 + (Rob.jb l 0).val else 0) + (Rob.jb l 1).val else (if Dov.metBy l t 0 then 0 + (Rob.jb l 0).val else 0)) ≤ _
              split <;> split <;> omega
            have hbound := Dov.two_law h2 hpq.q0 hqp (Dov.valueOf l t) hv.1 hvl
            have hv2 := valueOf_bd l (Dov.run l p q).tr (allGood_ok HOK.out) l.length (Nat.le_refl _)
            change 0 ≤ Dov.valueOf l t ∧ Dov.valueOf l t ≤ _ at hv
            change 0 ≤ Dov.valueOf l (Dov.run l p q).tr ∧ Dov.valueOf l (Dov.run l p q).tr ≤ _ at hv2
            rw [HLL.out] at hv hv2
            have hB : ∀ W, Calls Tryd.prog 30 #[.int .i64 (Dov.valueOf l t), .int .i64 (Dov.valueOf l (Dov.run l p q).tr), .int .i64 p, .int .i64 q] W fun e w' => e = .returned (.bool true) ∧ Below W.heap.size W w' := fun W => bound_any _ _ p q W hv.1 (by omega) hv2.1 (by omega) hpq.p0 hpq.p1 hpq.q0 hpq.q1 hbound
            obtain ⟨hlf, htr, -⟩ := Dov.trace_law (l := l) p q (allGood_ok HOK.out) (by rw [HLL.out]; omega)
            have htl : (Dov.run l p q).tr.length ≤ 10000 := by
              have : (decide ((Dov.run l p q).tr.length ≤ 10000) && traceGo l 0 (List.replicate l.length 0) (Dov.run l p q).tr) = true := htr
              simp only [Bool.and_eq_true, decide_eq_true_eq] at this
              exact this.1
            have hbr := below_then HB5.out hb
            have hRr := HR2.out.below hbr
            have hTr := HT2.out.below hbr
            have hrun := dovRun_any p q (some ⟨bl, 0, none⟩) bl 0 2 l wr hRr hTr HOK.out (by rw [HLL.out]; omega) hpq HRUE.out
            rw [HLL.out] at hrun
            have HRUN : Aside0 _ := ⟨hrun⟩
            have HBD : Aside0 _ := ⟨hB⟩
            have HBR : Aside0 _ := ⟨hbr⟩
            have hval1 : ∀ W, Below W2.heap.size W2 W → Calls Tryd.prog 31 #[.slice (some ⟨bl, 0, none⟩) 2 2, .slice A3 n3 c3] W fun e w' => e = .returned (.int .i64 (Dov.valueOf l t)) ∧ Below W.heap.size W w' := fun W hW => by
              have := value_any (some ⟨bl, 0, none⟩) bl 0 2 l A3 bt ot c3 t W (HR2.out.below hW) (HRTT.out.below hW) (HT2.out.below hW) HOK.out (by rw [HLL.out]; omega)
              rw [HLL.out, HTL.out] at this; exact this
            have HVAL1 : Aside0 _ := ⟨hval1⟩
            have hval2 : ∀ (A' : Option Addr) (b' c' : Nat) W, Below W2.heap.size W2 W → RdInts W A' b' 0 (Dov.run l p q).tr → Calls Tryd.prog 31 #[.slice (some ⟨bl, 0, none⟩) 2 2, .slice A' (Dov.run l p q).tr.length c'] W fun e w' => e = .returned (.int .i64 (Dov.valueOf l (Dov.run l p q).tr)) ∧ Below W.heap.size W w' := fun A' b' c' W hW hR => by
              have := value_any (some ⟨bl, 0, none⟩) bl 0 2 l A' b' 0 c' (Dov.run l p q).tr W (HR2.out.below hW) hR (HT2.out.below hW) HOK.out (by rw [HLL.out]; omega)
              rw [HLL.out] at this; exact this
            have HVAL2 : Aside0 _ := ⟨hval2⟩
            have hlf2 : (Dov.run l p q).fa.length = 2 := by rw [hlf, HLL.out]
            have HLF := hide hlf2
            obtain ⟨c0, c1⟩ := HRC2.out wr hbr
            clear h2 hv hvl hbound hv2 hB hlf htr hbr hRr hTr hrun hval1 hval2 hlf2 HK
            generalize Dov.valueOf l t = va at *
            generalize Dov.valueOf l (Dov.run l p q).tr = vb at *
            generalize Dov.run l p q = s at *
            go_wp2_with (go_at_call 28; refine HRUN.out.mono ?_; rintro e w6 ⟨hb6, v, rfl, hO⟩; have HO : Aside0 _ := ⟨hO⟩; have HB6 : Aside0 _ := ⟨below_then HBR.out hb6⟩; unfold doutVal; rw [HLF.out]; clear hO hb6)
            obtain ⟨W7, hW7⟩ : ∃ W7, W7 = w6.alloc (.cells #[.slice v.Atr s.tr.length v.ctr, .slice (some ⟨v.bfa, 0, none⟩) 2 v.cfa, .slice v.Aal s.al.length v.cal] 48 (0, 0)) := ⟨_, rfl⟩
            have hb67 : Below w6.heap.size w6 W7 := by rw [hW7]; exact below_alloc (Below.refl _ w6) _
            have o0 : W7.cell? ⟨w6.heap.size, 0, none⟩ = some (.slice v.Atr s.tr.length v.ctr) := by rw [hW7]; simp
            have hos : w6.heap.size < W7.heap.size := by rw [hW7]; simp
            rw [← hW7]
            have hb27 := below_then HB6.out hb67
            obtain ⟨d0, d1⟩ := HRC2.out W7 hb27
            have hpl : w.heap.size < W7.heap.size := World.block_lt_of_cell? _ _ d0
            obtain ⟨bo, hoi⟩ := rdi_own (own_below HO.out.tr hb67) (by omega)
            have hcs := bw_cells W7
            have HQ1 : Aside0 _ := ⟨fun p' : BW W7 => calls_bw p' (HVAL1.out p'.W (below_then hb27 p'.h))⟩
            have HQ2 : Aside0 _ := ⟨fun p' : BW W7 => calls_bw p' (HVAL2.out v.Atr bo v.ctr p'.W (below_then hb27 p'.h) (hoi.below p'.h))⟩
            have HQ3 : Aside0 _ := ⟨fun p' : BW W7 => calls_bw p' (HBD.out p'.W)⟩
            have HB7 : Aside0 _ := ⟨below_then HB2.out hb27⟩
            generalize w6.heap.size = ob at *
            clear hW7 hb67 hb27 hoi c0 c1
            refine wp_region_bw mixed (by kernel_rfl) ?_
            repeat (go_big_quiet_step (first | (go_at_call 30; exact HQ3.out _) | (go_at_call 31; with_reducible exact HQ1.out _) | (go_at_call 31; with_reducible exact HQ2.out _)))
            refine wpQuiet_nil ?_
            rintro w' ⟨p', rfl⟩
            go_wp2
            go_ret
            exact ⟨rfl, below_then HB7.out p'.h⟩
end Go.Proofs.YtjgegnjclmkpeaaDoor
