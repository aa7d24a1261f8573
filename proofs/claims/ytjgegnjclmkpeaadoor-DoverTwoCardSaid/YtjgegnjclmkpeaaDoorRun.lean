/- The robust runner: the walk of run (one tick). -/
import Derived.Test.YtjgegnjclmkpeaaDoorAgain
set_option linter.unusedVariables false
set_option linter.unusedSimpArgs false
namespace Go.Proofs.YtjgegnjclmkpeaaDoor
open Go.RowKit

section
variable {w0 w w3 : World} {g : Nat} {A0 : Option Addr} {b0 o0 c0 : Nat} {l : List Job} {v : RV} {t : Int} {s : RS}
theorem RAt.g_ne_ran (h : RAt w0 w g A0 b0 o0 c0 l v t s) : g ≠ v.bran := fun he => by
  subst he; exact own_ne_block h.oran h.blk (by decide) rfl
theorem RAt.b_ne_ran (h : RAt w0 w g A0 b0 o0 c0 l v t s) (h0 : 0 < l.length) : b0 ≠ v.bran := fun he => by
  obtain ⟨cs, fz, e⟩ := h.jblk h0
  subst he; exact own_ne_block h.oran e (by decide) rfl
theorem RAt.b_ne_g (h : RAt w0 w g A0 b0 o0 c0 l v t s) (h0 : 0 < l.length) : b0 ≠ g := fun he => by
  obtain ⟨cs, fz, e⟩ := h.jblk h0
  subst he
  rw [h.blk] at e
  simp only [Option.some.injEq, Obj.cells.injEq] at e
  exact absurd e.2.1 (by decide)
/-- The row of how often each ran, behind an append to the trace. -/
theorem RAt.ran_tr (h : RAt w0 w g A0 b0 o0 c0 l v t s) (hg : w.grownBy w3 (ob v.Atr)) (i : Nat) (hi : i < l.length) : w3.cell? ⟨v.bran, i, none⟩ = some (.int .i64 (Rob.ranAt s i)) ∧ w3.frozen? ⟨v.bran, i, none⟩ = false := by
  have ho := h.oran.kept hg (.inr (by simp only [Value.ownBlock]; exact (Ne.symm h.sep.rt)))
  exact ⟨own_int ho i hi, ho.frozenAt i⟩
set_option maxHeartbeats 4000000 in
set_option maxRecDepth 100000 in
theorem run_any (h : RAt w0 w g A0 b0 o0 c0 l v t s) (hT : Tabs w0) (F : Fine l t s) (hF : ∀ i, i < l.length → Rob.ranAt s i ≤ 9999) (hl20 : l.length < 20) (htr : s.tr.length ≤ 1000000000) (hag : s.ag.length ≤ 1000000000) :
    Calls Tryd.prog 54 #[.pointer (some ⟨g, 0, none⟩)] w fun e w' => e = .returned (.tuple #[]) ∧ ∃ v', RAt w0 w' g A0 b0 o0 c0 l v' t (Rob.runTick l t s) := by
  have hn := h.jobs.len
  have mixed : Tryd.prog.follows .mixedOrders = true := by kernel_rfl
  obtain ⟨n, hn'⟩ : ∃ n, n = l.length := ⟨_, rfl⟩
  have HN := hide hn'
  have hhead := head_any h
  have HHEAD : Aside0 _ := ⟨hhead⟩
  obtain ⟨sp0, sp1, -⟩ := Rob.head_spec l s
  obtain ⟨m, hm'⟩ : ∃ m, m = s.tr.length := ⟨_, rfl⟩
  have HM := hide hm'
  have hcs : ∀ W, Below w.heap.size w W → RAt w0 (W.alloc (.cells #[.int .i64 (Rob.head l s)] 3 (0, 0))) g A0 b0 o0 c0 l v t s ∧ W.cell? ⟨g, 3, none⟩ = some (.slice v.Atr m v.ctr) := fun W hW => by
    obtain ⟨-, -, -, d3, -, -, -, -⟩ := (h.below hW).cells
    rw [← hm'] at d3
    exact ⟨(h.below hW).below (below_alloc (Below.refl _ W) _), d3⟩
  have HCS : Aside0 _ := ⟨hcs⟩
  have hstep : Rob.runTick l t s = if Rob.head l s = -1 then { s with tr := s.tr ++ [Rob.head l s] } else Rob.runAt l t (Rob.head l s).toNat { s with tr := s.tr ++ [Rob.head l s] } := rfl
  have HSTEP := hide hstep
  obtain ⟨i0, hi0, hzz⟩ := Option.map_eq_some_iff.1 (show (Tryd.prog.info? 3).map (fun i => (i.zero, i.size, i.bytes)) = some (some (.int .i64 0), 1, 8) by kernel_rfl)
  simp only [Prod.mk.injEq] at hzz
  obtain ⟨hz0, hz1, hz2⟩ := hzz
  have HI : Aside0 _ := ⟨And.intro hi0 (And.intro hz0 (And.intro hz1 hz2))⟩
  have hgl := h.glt
  rw [← hm'] at htr
  rw [← hn'] at hn hl20 sp1
  have HH : Aside0 _ := ⟨h⟩
  have FF : Aside0 _ := ⟨F⟩
  have HF : Aside0 _ := ⟨hF⟩
  have ht0 := F.t0
  have ht1 := F.t1
  clear hn' hm' hhead hcs hstep hi0 hz0 hz1 hz2 h F hF
  generalize Rob.head l s = x at HHEAD HCS HSTEP sp0 sp1
  rcases (show x = -1 ∨ ∃ k : Nat, x = k from if hx : x = -1 then .inl hx else .inr ⟨x.toNat, by omega⟩) with rfl | ⟨k, rfl⟩
  · go_enter Tryd.func54, Tryd.ntmps54
    go_wp2_with (first | (go_at_call 98; refine HHEAD.out.mono ?_; rintro e w1 ⟨rfl, hb1⟩; obtain ⟨hR1, d3⟩ := HCS.out w1 hb1; have hgw := Nat.lt_of_lt_of_le hgl hb1.size; have ho2 := hR1.otr; rw [← HM.out] at ho2; have hs2 := hR1.base.size; have HR1 : Aside0 _ := ⟨hR1⟩; clear hR1) | (at_builtin; refine wpList_append_lies _ (by rfl) (.tmp 11) (.tmp 13) 25 (by rfl) w0.heap.size 3 i0 (.int .i64 0) 1 8 Tryd.underlying25 HI.out.1 HI.out.2.1 HI.out.2.2.1 HI.out.2.2.2 (by rfl) (by omega) (.slice v.Atr m v.ctr) m (ints s.tr) (by rfl) ho2 ⟨w1.heap.size, 0, none⟩ 1 1 [.int .i64 (-1)] (by rfl) (by rfl) (World.news_of_block (heap_alloc_new w1 _)) (cells1 (-1)) (by omega) (by unfold maxLen; omega) (by omega) hs2 _ (by rfl) ?_; intro g2 cap2 w3 ho3 hg3 hat3 hlt3; rw [ob_slice] at hg3 hat3; have ho2' := ho2; rw [HM.out] at ho2' ho3; obtain ⟨c33, f33⟩ := HR1.out.row_cells ho2' hg3 3; obtain ⟨-, -, -, c34, -, -, -, -⟩ := HR1.out.cells; replace c33 := c33.trans c34; clear c34; have hrp := HR1.out.push_tr hg3 ho3 (hat3.imp id (fun e => by rw [e]; exact Nat.le_refl _)); rw [← HM.out] at hrp; have HRP : Aside0 _ := ⟨hrp⟩; clear hrp ho3 hg3 hat3 ho2 ho2' hs2))
    (try simp only [Exit.inBlock, Exit.then]); refine bodyPost_ret (results_none rfl _ _ _) rfl ?_
    exact ⟨rfl, _, by rw [HSTEP.out]; exact HRP.out⟩
  · have hkn : k < n := by omega
    have hkl : k < l.length := by rw [← HN.out]; exact hkn
    have hA := HH.out.jobs.addr (by omega)
    subst hA
    have hnm := HH.out.jobs.names _ (Rob.jb_mem hkl)
    have hbg := HH.out.b_ne_g (by omega)
    have hbr := HH.out.b_ne_ran (by omega)
    have hgr := HH.out.g_ne_ran
    have hblt := HH.out.jobs.lt (by omega)
    have hokj := FF.out.job hkl
    have hr0 := (FF.out.ran k hkl).1
    have hr1 := HF.out k hkl
    have hO := Job.ok_of_good hokj
    have q1 := hO.bud0
    have q2 := hO.bud1
    have q3 := hO.act0
    obtain ⟨j, hj⟩ : ∃ j, j = Rob.jb l k := ⟨_, rfl⟩
    have HJ := hide hj
    obtain ⟨r, hr⟩ : ∃ r, r = Rob.ranAt s k := ⟨_, rfl⟩
    have HRR := hide hr.symm
    rw [← hj] at hnm hokj q1 q2 q3
    rw [← hr] at hr0 hr1
    have HOKJ := hide hokj
    have hne1 : ((k : Int) == -1) = false := beq_eq_false_iff_ne.2 (by omega)
    clear hj hr hO hokj
    go_enter Tryd.func54, Tryd.ntmps54
    go_wp2_with (first | (go_at_call 98; refine HHEAD.out.mono ?_; rintro e w1 ⟨rfl, hb1⟩; obtain ⟨hR1, d3⟩ := HCS.out w1 hb1; have hgw := Nat.lt_of_lt_of_le hgl hb1.size; have ho2 := hR1.otr; rw [← HM.out] at ho2; have hs2 := hR1.base.size; have HR1 : Aside0 _ := ⟨hR1⟩; clear hR1) | (at_builtin; refine wpList_append_lies _ (by rfl) (.tmp 11) (.tmp 13) 25 (by rfl) w0.heap.size 3 i0 (.int .i64 0) 1 8 Tryd.underlying25 HI.out.1 HI.out.2.1 HI.out.2.2.1 HI.out.2.2.2 (by rfl) (by omega) (.slice v.Atr m v.ctr) m (ints s.tr) (by rfl) ho2 ⟨w1.heap.size, 0, none⟩ 1 1 [.int .i64 k] (by rfl) (by rfl) (World.news_of_block (heap_alloc_new w1 _)) (cells1 k) (by omega) (by unfold maxLen; omega) (by omega) hs2 _ (by rfl) ?_; intro g2 cap2 w3 ho3 hg3 hat3 hlt3; rw [ob_slice] at hg3 hat3; have ho2' := ho2; rw [HM.out] at ho2' ho3; obtain ⟨c33, f33⟩ := HR1.out.row_cells ho2' hg3 3; obtain ⟨-, -, -, c34, -, -, -, -⟩ := HR1.out.cells; replace c33 := c33.trans c34; clear c34; obtain ⟨c30, -⟩ := HR1.out.row_cells ho2' hg3 0; obtain ⟨c32, -⟩ := HR1.out.row_cells ho2' hg3 2; obtain ⟨c300, -, c320, -, -, -, -, -⟩ := HR1.out.cells; replace c30 := c30.trans c300; replace c32 := c32.trans c320; rw [← HN.out] at c30 c32; clear c300 c320; obtain ⟨r1, r2⟩ := HR1.out.ran_tr hg3 k hkl; rw [HRR.out] at r1; obtain ⟨-, -, hrd, -, -⟩ := HR1.out.row_grown ho2' hg3; obtain ⟨j0, j1, j2, j3, j4, j5, j6, j7⟩ := hrd.row k hkl; rw [← HJ.out] at j0 j1 j2 j3 j4 j5 j6 j7; clear hrd; have hrp := HR1.out.push_tr hg3 ho3 (hat3.imp id (fun e => by rw [e]; exact Nat.le_refl _)); rw [← HM.out] at hrp; have HRP : Aside0 _ := ⟨hrp⟩; clear hrp ho3 hg3 hat3 ho2 ho2' hs2))
    obtain ⟨W5, hW, hb5, hk5, e0, e1, e2, e3, e4, e5, e6, e7⟩ := jbox ((w3.setCell ⟨g, 3, none⟩ (.slice (some ⟨g2, 0, none⟩) (m + 1) cap2)).setCell ⟨v.bran, k, none⟩ (.int .i64 (r + 1))) j
    have hset := HRP.out.set_ran k (r + 1)
    have hR5 := hset.below hb5
    have hs5 : ((w3.setCell ⟨g, 3, none⟩ (.slice (some ⟨g2, 0, none⟩) (m + 1) cap2)).setCell ⟨v.bran, k, none⟩ (.int .i64 (r + 1))).heap.size = w3.heap.size := by simp [World.setCell]
    rw [hs5] at e0 e1 e2 e3 e4 e5 e6 e7 hk5
    rw [hW]
    obtain ⟨bx, hbx⟩ : ∃ bx, bx = w3.heap.size := ⟨_, rfl⟩
    simp only [Nat.zero_add] at e0 e1 e2 e3 e4 e5 e6 e7
    obtain ⟨v5, hv5⟩ : ∃ v5 : RV, v5 = { v with Atr := some ⟨g2, 0, none⟩, ctr := cap2 } := ⟨_, rfl⟩
    obtain ⟨s5, hs5'⟩ : ∃ s5 : RS, s5 = { s with ran := s.ran.set k (r + 1), tr := s.tr ++ [(k : Int)] } := ⟨_, rfl⟩
    have hR5' : RAt w0 W5 g (some ⟨b0, o0, none⟩) b0 o0 c0 l v5 t s5 := by rw [hv5, hs5']; exact hR5
    have hag5 : s5.ag.length ≤ 1000000000 := by rw [hs5']; exact hag
    have hran5 : ∀ i, Rob.ranAt s5 i = if i = k then r + 1 else Rob.ranAt s i := fun i => by
      rw [hs5']
      unfold Rob.ranAt
      simp only [List.getD_eq_getElem?_getD]
      by_cases hik : i = k
      · subst hik
        rw [List.getElem?_set_self (by rw [HH.out.lran]; exact hkl)]
        simp
      · rw [List.getElem?_set_ne (Ne.symm hik), if_neg hik]
    have F5 : Fine l t s5 := ⟨FF.out.ok, fun i hi => by
      rw [hran5]
      split
      · omega
      · have := FF.out.ran i hi; have := HF.out i hi; omega, ht0, ht1⟩
    have hst : Rob.runTick l t s = if decide (r + 1 < j.work) then s5 else if !j.runs then Rob.say s5 k 2 (t + 1) else if decide (j.act < j.bud) then Rob.again l t (Rob.say s5 k 1 (t + 1)) else Rob.say s5 k 1 (t + 1) := by
      rw [HSTEP.out, if_neg (by omega), Int.toNat_natCast, HJ.out, hs5', ← HRR.out]
      have hself : Rob.ranAt { s with ran := s.ran.set k (Rob.ranAt s k + 1), tr := s.tr ++ [(k : Int)] } k = Rob.ranAt s k + 1 := by
        have := hran5 k
        rw [hs5', if_pos rfl, ← HRR.out] at this
        exact this
      unfold Rob.runAt
      simp only [show ∀ q, Rob.ranAt { s with tr := s.tr ++ [(k : Int)] } q = Rob.ranAt s q from fun _ => rfl, hself, decide_eq_true_eq]
    have HST := hide hst
    have hbfa : v5.bfa < bx := by rw [hbx, hv5]; have := hset.ltfa; rw [hs5] at this; exact this
    have HBFA := hide hbfa
    have hrk := hran5 k
    rw [if_pos rfl] at hrk
    clear hset hbfa hR5 hs5 hst hran5 hs5' hv5 hW HR1 j0 j1 j2 j3 j4 j5 j6 j7 c30 c32 c33 r1 r2 f33 d3 HRP hb5 HCS HHEAD HSTEP
    rw [← hbx] at e0 e1 e2 e3 e4 e5 e6 e7 hk5
    rw [← hbx]
    clear hbx
    have HR5 : Aside0 _ := ⟨hR5'⟩
    have hcs := bw_cells W5
    have hT5 := hR5'.tabs hT
    have hwork := fun p : BW W5 => calls_bw p (work_any j.name j.rel j.dl j.bud j.act j.val j.cln j.hard p.W hnm (hT5.below p.h) HOKJ.out)
    obtain ⟨-, -, d2, -, -, -, -, -⟩ := hR5'.cells
    rw [← HN.out] at d2
    have hrc := hR5'.cran k hkl
    rw [hrk] at hrc
    have hg5 := hR5'.glt
    have hr5 := hR5'.ltran
    have hruns : ∀ W, Calls Tryd.prog 19 #[.agg #[.string j.name, .int .i64 j.rel, .int .i64 j.dl, .int .i64 j.bud, .int .i64 j.act, .int .i64 j.val, .int .i64 j.cln, .bool j.hard]] W fun e w' => e = .returned (.bool (decide (j.act ≤ j.bud))) ∧ Below W.heap.size W w' := fun W => runs_any _ _ _ _ _ _ _ _ W
    have HRUNS : Aside0 _ := ⟨hruns⟩
    have hwj : Job.work ⟨j.name, j.rel, j.dl, j.bud, j.act, j.val, j.cln, j.hard⟩ = j.work := rfl
    rw [hwj] at hwork
    generalize j.work = wv at hwork HST
    have HWORK : Aside0 _ := ⟨hwork⟩
    clear hT5 hwork hR5' hrk hruns hwj
    have hkz : (k : Int) < (n : Int) := by omega
    by_cases hlt : r + 1 < wv
    · have hd := decide_eq_true hlt
      have HD := hide hd
      refine wp_region_bw mixed (by kernel_rfl) ?_
      repeat (go_big_quiet_step ((go_at_call 57; exact HWORK.out _)))
      refine wpQuiet_nil ?_
      rintro w' ⟨p, rfl⟩
      go_wp2
      go_end0
      exact ⟨rfl, v5, by rw [HST.out, HD.out]; exact HR5.out.below p.h⟩
    · have hd := decide_eq_false hlt
      have HD := hide hd
      refine wp_region_bw mixed (by kernel_rfl) ?_
      repeat (go_big_quiet_step ((go_at_call 57; exact HWORK.out _)))
      refine wpQuiet_nil ?_
      rintro w' ⟨p, rfl⟩
      have hR6 := HR5.out.below p.h
      have hc6 : ∀ o, p.W.cell? ⟨bx, o, none⟩ = W5.cell? ⟨bx, o, none⟩ := fun o => p.h.cell (p := ⟨bx, o, none⟩) hk5
      rw [← hc6] at e0 e1 e2 e3 e4 e5 e6 e7
      have hk6 := Nat.lt_of_lt_of_le hk5 p.h.size
      have HR6 : Aside0 _ := ⟨hR6⟩
      clear hc6 hR6 hcs d2 hrc hg5 hr5 HWORK hk5
      generalize p.W = W6 at *
      by_cases hru : j.act ≤ j.bud
      · have hjr : Job.runs j = true := by unfold Job.runs; exact decide_eq_true hru
        have hrd := decide_eq_true hru
        have HJR := hide hjr
        have hsay : ∀ W, Below W6.heap.size W6 W → Calls Tryd.prog 56 #[.pointer (some ⟨g, 0, none⟩), .int .i64 k, .int .i64 1, .int .i64 1] W fun e w' => e = .returned (.tuple #[]) ∧ RAt w0 w' g (some ⟨b0, o0, none⟩) b0 o0 c0 l v5 t (Rob.say s5 k 1 (t + 1)) ∧ W.grownBy w' (some v5.bfa) :=
          fun W hW => say_any (HR6.out.below hW) k hkl 1 1 ht0 (by omega) (by omega) (by omega)
        have HSAY : Aside0 _ := ⟨hsay⟩
        have hbox : ∀ W W', Below W6.heap.size W6 W → W.grownBy W' (some v5.bfa) → W'.cell? ⟨bx, 4, none⟩ = some (.int .i64 j.act) ∧ W'.cell? ⟨bx, 3, none⟩ = some (.int .i64 j.bud) := fun W W' hW hg => by
          have hne : some bx ≠ some v5.bfa := by have := HBFA.out; simp; omega
          exact ⟨hg.cell ((hW.cell (p := ⟨bx, 4, none⟩) hk6).trans e4) hne, hg.cell ((hW.cell (p := ⟨bx, 3, none⟩) hk6).trans e3) hne⟩
        have HBOX : Aside0 _ := ⟨hbox⟩
        have hagain : ∀ W, RAt w0 W g (some ⟨b0, o0, none⟩) b0 o0 c0 l v5 t (Rob.say s5 k 1 (t + 1)) → Calls Tryd.prog 99 #[.pointer (some ⟨g, 0, none⟩)] W fun e w' => e = .returned (.tuple #[]) ∧ ∃ v', RAt w0 w' g (some ⟨b0, o0, none⟩) b0 o0 c0 l v' t (Rob.again l t (Rob.say s5 k 1 (t + 1))) :=
          fun W hW => again_any hW hT (F5.of_ran rfl) (by rw [← HN.out]; exact hl20) hag5
        have HAGAIN : Aside0 _ := ⟨hagain⟩
        clear hjr hsay hbox hagain
        by_cases hab : j.act < j.bud
        · have habd := decide_eq_true hab
          have HABD := hide habd
          go_wp2_with (first | (go_at_call 19; refine (HRUNS.out W6).mono ?_; rintro e w7 ⟨rfl, hb7⟩) | (go_at_call 56; refine (HSAY.out w7 hb7).mono ?_; rintro e w8 ⟨rfl, hr8, hg8⟩; obtain ⟨x4, x3⟩ := HBOX.out w7 w8 hb7 hg8; have HR8 : Aside0 _ := ⟨hr8⟩; clear hr8 hg8) | (go_at_call 99; refine (HAGAIN.out w8 HR8.out).mono ?_; rintro e w9 ⟨rfl, hr9⟩))
          go_end0
          exact ⟨rfl, by rw [HST.out, HD.out, HJR.out, HABD.out]; exact hr9⟩
        · have habd := decide_eq_false hab
          have HABD := hide habd
          go_wp2_with (first | (go_at_call 19; refine (HRUNS.out W6).mono ?_; rintro e w7 ⟨rfl, hb7⟩) | (go_at_call 56; refine (HSAY.out w7 hb7).mono ?_; rintro e w8 ⟨rfl, hr8, hg8⟩; obtain ⟨x4, x3⟩ := HBOX.out w7 w8 hb7 hg8; have HR8 : Aside0 _ := ⟨hr8⟩; clear hr8 hg8) | (go_at_call 99; refine (HAGAIN.out w8 HR8.out).mono ?_; rintro e w9 ⟨rfl, hr9⟩))
          go_end0
          exact ⟨rfl, v5, by rw [HST.out, HD.out, HJR.out, HABD.out]; exact HR8.out⟩
      · have hjr : Job.runs j = false := by unfold Job.runs; exact decide_eq_false hru
        have hrd := decide_eq_false hru
        have HJR := hide hjr
        have hsay : ∀ W, Below W6.heap.size W6 W → Calls Tryd.prog 56 #[.pointer (some ⟨g, 0, none⟩), .int .i64 k, .int .i64 2, .int .i64 1] W fun e w' => e = .returned (.tuple #[]) ∧ RAt w0 w' g (some ⟨b0, o0, none⟩) b0 o0 c0 l v5 t (Rob.say s5 k 2 (t + 1)) ∧ W.grownBy w' (some v5.bfa) :=
          fun W hW => say_any (HR6.out.below hW) k hkl 2 1 ht0 (by omega) (by omega) (by omega)
        have HSAY : Aside0 _ := ⟨hsay⟩
        clear hjr hsay
        go_wp2_with (first | (go_at_call 19; refine (HRUNS.out W6).mono ?_; rintro e w7 ⟨rfl, hb7⟩) | (go_at_call 56; refine (HSAY.out w7 hb7).mono ?_; rintro e w8 ⟨rfl, hr8, hg8⟩; have HR8 : Aside0 _ := ⟨hr8⟩; clear hr8 hg8))
        go_end0
        exact ⟨rfl, v5, by rw [HST.out, HD.out, HJR.out]; exact HR8.out⟩
end
end Go.Proofs.YtjgegnjclmkpeaaDoor
