/- Package trace: Good at any trace, MetBy, Value. -/
import Derived.Test.YtjgegnjclmkpeaaDoorTraceGood
import Derived.Test.YtjgegnjclmkpeaaDoorDovTwo
set_option linter.unusedVariables false
set_option linter.unusedSimpArgs false
namespace Go.Proofs.YtjgegnjclmkpeaaDoor
open Go.RowKit Go.Sort Go.Proofs

set_option maxHeartbeats 4000000 in
set_option maxRecDepth 100000 in
theorem traceGoodB_any (A : Option Addr) (b off c : Nat) (l : List Job) (A2 : Option Addr) (b2 off2 c2 : Nat) (t : List Int) (w : World) (R : RdJobs w A b off l) (R2 : RdInts w A2 b2 off2 t) (hT : Tabs w) (hok : allOk l = true) (htl : t.length ≤ 10000) :
    Calls Tryd.prog 17 #[.slice A l.length c, .slice A2 t.length c2] w fun e w' => e = .returned (.bool (traceOk l t)) ∧ Below w.heap.size w w' := by
  have mixed : Tryd.prog.follows .mixedOrders = true := by kernel_rfl
  have hn := R.len
  have hlen : l.length ≤ 200 := allGood_len hok
  have hgo : traceOk l t = traceGo l 0 (List.replicate l.length 0) t := by
    unfold traceOk; rw [decide_eq_true htl, Bool.true_and]
  obtain ⟨R0, hR0⟩ : ∃ R0, R0 = traceOk l t := ⟨_, rfl⟩
  rw [← hR0] at hgo ⊢
  have hall := all_any A b off c l w R hT
  rw [hok] at hall
  have HALL : Aside0 _ := ⟨hall⟩
  have hokj : ∀ j ∈ l, j.ok = true := by
    have := hok
    unfold allOk allGood at this
    simp only [Bool.and_eq_true, List.all_eq_true] at this
    exact this.2
  have HOKJ := hide hokj
  have HR : Aside0 _ := ⟨R⟩
  have HR2 : Aside0 _ := ⟨R2⟩
  have HG := hide hgo
  have HT : Aside0 _ := ⟨hT⟩
  obtain ⟨n, hn'⟩ : ∃ n, n = l.length := ⟨_, rfl⟩
  obtain ⟨m, hm'⟩ : ∃ m, m = t.length := ⟨_, rfl⟩
  have HN := hide hn'
  have HM := hide hm'
  have hmk := made_int n (by omega)
  rw [← hn'] at hn HALL hlen ⊢
  rw [← hm'] at htl ⊢
  clear hn' hm' hall hokj R R2 hgo hT hok hR0
  go_enter Tryd.func17, Tryd.ntmps17
  go_wp2_with (go_at_call 41; refine HALL.out.mono ?_; rintro e w1 ⟨rfl, hb1⟩)
  obtain ⟨W1, hW1⟩ : ∃ W1, W1 = w1.alloc (.cells (madeCells (Value.int .i64 0).cells n) 3 (0, 0)) := ⟨_, rfl⟩
  have ho1 : W1.ownsRow w.heap.size 3 1 (.slice (some ⟨w1.heap.size, 0, none⟩) n n) n (ints (List.replicate n 0)) := by rw [hW1]; exact own_madeI w1 _ n hb1.size (by omega)
  have hb2 : Below w.heap.size w W1 := by rw [hW1]; exact below_alloc hb1 _
  have hW1' : w1.alloc (.cells (madeCells #[.int .i64 0] n) 3 (0, 0)) = W1 := hW1.symm
  first | rw [hW1'] | rw [← hW1]
  have hgrlt : w.heap.size ≤ w1.heap.size := hb1.size
  generalize w1.heap.size = gr at ho1 hgrlt ⊢
  have HO1 : Aside0 _ := ⟨ho1⟩
  have HB2 : Aside0 _ := ⟨hb2⟩
  clear ho1 hb2 hW1 hW1' hmk hb1
  go_loopw [6, 7, 21] (fun _ _ q wr => ∃ k : Nat, k ≤ m ∧ q = .int .i64 k ∧ Aside0 (Below w.heap.size w wr) ∧ ∃ ran : List Int, Aside0 (wr.ownsRow w.heap.size 3 1 (.slice (some ⟨gr, 0, none⟩) n n) n (ints ran)) ∧ Hid (R0 = traceGo l k ran (t.drop k)) ∧ Hid (∀ i, i < n → 0 ≤ ran.getD i 0 ∧ ran.getD i 0 ≤ k)) (fun _ _ q _ => m - (intOf q).toNat)
  case atStart => exact ⟨0, by omega, rfl, HB2, List.replicate n 0, HO1, by show _ = _; rw [HN.out]; exact HG.out, by show ∀ i, _; intro i hi; rw [List.getD_eq_getElem?_getD, List.getElem?_replicate, if_pos hi]; simp⟩
  case round =>
    obtain ⟨k, hk, rfl, HB, ran, HO, HK, HRN⟩ := hrel
    by_cases hlt : k < m
    · have hkl : k < t.length := by rw [← HM.out]; exact hlt
      have hR2 := HR2.out.below HB.out
      have hA2 := hR2.addr (by omega)
      subst hA2
      have hc := hR2.c k hkl
      have hstep : R0 = traceGo l k ran (t.getD k 0 :: t.drop (k + 1)) := by rw [getD_int hkl, ← List.drop_eq_getElem_cons hkl]; exact HK.out
      rw [traceGo_cons] at hstep
      generalize t.getD k 0 = y at hc hstep
      by_cases hy : y = -1
      · subst hy
        rw [if_pos rfl] at hstep
        have HS := hide hstep
        clear hstep hR2
        go_wp2
        go_roundw
        case rel => exact ⟨k + 1, by omega, by go_num, HB, ran, HO, by show _ = _; rw [HS.out]; norm_cast, by show ∀ i, _; intro i hi; have := HRN.out i hi; omega⟩
        case measure => simp [intOf]; omega
      · rw [if_neg hy] at hstep
        have hyb : (y == -1) = false := beq_eq_false_iff_ne.2 hy
        split at hstep
        · rename_i hbad
          have HS := hide hstep
          have hyb : (y == -1) = false := beq_eq_false_iff_ne.2 hy
          have hR := HR.out.below HB.out
          clear hR2
          have hcs := bw_cells wr
          by_cases y1 : y < 0
          · have hd1 : decide (y < 0) = true := decide_eq_true y1
            clear hstep hbad
            go_wp2_with fail
            refine wp_region_bw mixed (by kernel_rfl) ?_
            repeat (go_big_quiet_step (fail))
            refine wpQuiet_nil ?_
            rintro w' ⟨p, rfl⟩
            go_wp2
            go_ret
            exact ⟨ret_bool HS.out.symm, below_then HB.out p.h⟩
          · obtain ⟨x, rfl⟩ : ∃ x : Nat, y = x := ⟨y.toNat, by omega⟩
            rw [Int.toNat_natCast] at hbad
            have hd1 : decide ((x : Int) < 0) = false := decide_eq_false y1
            by_cases y2 : (n : Int) ≤ x
            · have hd2 : decide ((n : Int) ≤ (x : Int)) = true := decide_eq_true y2
              have hd2n : decide (n ≤ x) = true := decide_eq_true (by omega)
              clear hstep hbad
              go_wp2_with fail
              refine wp_region_bw mixed (by kernel_rfl) ?_
              repeat (go_big_quiet_step (fail))
              refine wpQuiet_nil ?_
              rintro w' ⟨p, rfl⟩
              go_wp2
              go_ret
              exact ⟨ret_bool HS.out.symm, below_then HB.out p.h⟩
            · have hxl : x < l.length := by rw [← HN.out]; omega
              have hxn : x < n := by omega
              have hA := hR.addr (by omega)
              subst hA
              obtain ⟨j0, j1, j2, j3, j4, j5, j6, j7⟩ := hR.row x hxl
              have hnm := hR.names _ (Rob.jb_mem hxl)
              have hblt := hR.lt (by omega)
              have hokx := HOKJ.out _ (Rob.jb_mem hxl)
              have hTr := HT.out.below HB.out
              have hwork := fun p : BW wr => calls_bw p (work_any (Rob.jb l x).name (Rob.jb l x).rel (Rob.jb l x).dl (Rob.jb l x).bud (Rob.jb l x).act (Rob.jb l x).val (Rob.jb l x).cln (Rob.jb l x).hard p.W hnm (hTr.below p.h) hokx)
              have hwj : ∀ j : Job, Job.work ⟨j.name, j.rel, j.dl, j.bud, j.act, j.val, j.cln, j.hard⟩ = j.work := fun j => rfl
              rw [hwj] at hwork
              have hrc := own_int HO.out x hxn
              have hgl := own_size HO.out (g := gr) rfl
              have hb2 : (k : Int) < (Rob.jb l x).rel ∨ (Rob.jb l x).dl ≤ (k : Int) ∨ (Rob.jb l x).work ≤ ran.getD x 0 := by
                rw [← HN.out] at hbad
                rcases hbad with h | h | h | h | h
                · omega
                · omega
                · exact .inl h
                · exact .inr (.inl h)
                · exact .inr (.inr h)
              have HWORK : Aside0 _ := ⟨hwork⟩
              clear hwork hwj hR hTr hstep hokx hbad
              generalize Rob.jb l x = j at *
              generalize j.work = wv at *
              generalize ran.getD x 0 = r at *
              have hd2 : decide ((n : Int) ≤ (x : Int)) = false := decide_eq_false y2
              have hd2n : decide (n ≤ x) = false := decide_eq_false (by omega)
              have hd2p : ¬ (n ≤ x) := by omega
              have hxz : (x : Int) < (n : Int) := by omega
              have HNM := hide hnm
              have HB2 := hide hb2
              clear hnm hb2
              by_cases y3 : (k : Int) < j.rel
              · have hd3 : decide ((k : Int) < j.rel) = true := decide_eq_true y3
                go_wp2_with fail
                refine wp_region_bw mixed (by kernel_rfl) ?_
                repeat (go_big_quiet_step (fail))
                refine wpQuiet_nil ?_
                rintro w' ⟨p, rfl⟩
                go_wp2
                go_ret
                exact ⟨ret_bool HS.out.symm, below_then HB.out p.h⟩
              · have hd3 : decide ((k : Int) < j.rel) = false := decide_eq_false y3
                by_cases y4 : j.dl ≤ (k : Int)
                · have hd4 : decide (j.dl ≤ (k : Int)) = true := decide_eq_true y4
                  go_wp2_with fail
                  refine wp_region_bw mixed (by kernel_rfl) ?_
                  repeat (go_big_quiet_step (fail))
                  refine wpQuiet_nil ?_
                  rintro w' ⟨p, rfl⟩
                  go_wp2
                  go_ret
                  exact ⟨ret_bool HS.out.symm, below_then HB.out p.h⟩
                · have hd4 : decide (j.dl ≤ (k : Int)) = false := decide_eq_false y4
                  have y5 : wv ≤ r := by have := HB2.out; omega
                  have hd5 : decide (wv ≤ r) = true := decide_eq_true y5
                  go_wp2_with fail
                  refine wp_region_bw mixed (by kernel_rfl) ?_
                  repeat (go_big_quiet_step ((go_at_call 57; exact HWORK.out _)))
                  refine wpQuiet_nil ?_
                  rintro w' ⟨p, rfl⟩
                  go_wp2
                  go_ret
                  exact ⟨ret_bool HS.out.symm, below_then HB.out p.h⟩
        · rename_i hbad
          simp only [not_or, Int.not_lt, Int.not_le] at hbad
          obtain ⟨f1, f2, f3, f4, f5⟩ := hbad
          obtain ⟨x, rfl⟩ : ∃ x : Nat, y = x := ⟨y.toNat, by omega⟩
          rw [Int.toNat_natCast] at f3 f4 f5 hstep
          have HS := hide hstep
          have hxl : x < l.length := by omega
          have hxn : x < n := by rw [HN.out]; exact hxl
          have hR := HR.out.below HB.out
          have hA := hR.addr (by omega)
          subst hA
          obtain ⟨j0, j1, j2, j3, j4, j5, j6, j7⟩ := hR.row x hxl
          have hnm := hR.names _ (Rob.jb_mem hxl)
          have hblt := hR.lt (by omega)
          have hokx := HOKJ.out _ (Rob.jb_mem hxl)
          change (k : Int) ≥ (Rob.jb l x).rel at f3
          change (k : Int) < (Rob.jb l x).dl at f4
          change ran.getD x 0 < (Rob.jb l x).work at f5
          have hTr := HT.out.below HB.out
          have hwork := fun p : BW wr => calls_bw p (work_any (Rob.jb l x).name (Rob.jb l x).rel (Rob.jb l x).dl (Rob.jb l x).bud (Rob.jb l x).act (Rob.jb l x).val (Rob.jb l x).cln (Rob.jb l x).hard p.W hnm (hTr.below p.h) hokx)
          have hwj : ∀ j : Job, Job.work ⟨j.name, j.rel, j.dl, j.bud, j.act, j.val, j.cln, j.hard⟩ = j.work := fun j => rfl
          rw [hwj] at hwork
          have hrc := own_int HO.out x hxn
          have hrf := HO.out.frozenAt x
          have hgl := own_size HO.out (g := gr) rfl
          have hrb := HRN.out x hxn
          have hcs := bw_cells wr
          have hlr : ran.length = n := by have := HO.out.1; rw [ints_length] at this; omega
          have HWORK : Aside0 _ := ⟨hwork⟩
          clear hwork hwj hR hR2 hTr hstep hokx
          generalize Rob.jb l x = j at *
          generalize j.work = wv at *
          generalize hr : ran.getD x 0 = r at *
          have HRR := hide hr
          clear hr
          obtain ⟨hr0, hr1⟩ := hrb
          have hd1 : decide ((x : Int) < 0) = false := decide_eq_false (by omega)
          have hd2 : decide ((n : Int) ≤ (x : Int)) = false := decide_eq_false (by omega)
          have hd2n : decide (n ≤ x) = false := decide_eq_false (by omega)
          have hd2p : ¬ (n ≤ x) := by omega
          have hd3 : decide ((k : Int) < j.rel) = false := decide_eq_false (by omega)
          have hd4 : decide (j.dl ≤ (k : Int)) = false := decide_eq_false (by omega)
          have hd5 : decide (wv ≤ r) = false := decide_eq_false (by omega)
          have hxz : (x : Int) < (n : Int) := by omega
          have HNM := hide hnm
          clear hnm f1 f2
          go_wp2_with fail
          refine wp_region_bw mixed (by kernel_rfl) ?_
          repeat (go_big_quiet_step ((go_at_call 57; exact HWORK.out _)))
          refine wpQuiet_nil ?_
          rintro w' ⟨p, rfl⟩
          have hb6 := p.h
          have ho6 := own_below HO.out hb6
          have hrc6 := own_int ho6 x hxn
          rw [HRR.out] at hrc6
          have hrf6 := ho6.frozenAt x
          have hst := (ho6.stored x (.int .i64 (r + 1))).1
          rw [ints_set] at hst
          have hbs : Below w.heap.size w (p.W.setCell ⟨gr, x, none⟩ (.int .i64 (r + 1))) := (below_then HB.out hb6).setCell hgrlt _
          have HST : Aside0 _ := ⟨hst⟩
          have HBS : Aside0 _ := ⟨hbs⟩
          clear hcs HWORK hrc hrf hgl hblt hst hbs hb6 ho6 j0 j1 j2 j3 j4 j5 j6 j7 hc
          generalize p.W = W6 at *
          go_wp2
          go_roundw
          case rel => exact ⟨k + 1, by omega, by go_num, HBS, ran.set x (r + 1), HST, by show _ = _; rw [HS.out]; norm_cast, by
            show ∀ i, _
            intro i hi
            have h1 := HRN.out i hi
            rw [getD_set_eq]
            split
            · omega
            · omega⟩
          case measure => simp [intOf]; omega
    · have hfin : R0 = true := by
        rw [HK.out, List.drop_eq_nil_of_le (by rw [← HM.out]; omega)]; rfl
      have HFI := hide hfin
      clear hfin
      go_wp2
      go_ret
      exact ⟨ret_bool HFI.out.symm, HB.out⟩
/-- A trace that is too long is none. -/
theorem traceLong_any (A : Option Addr) (b off c : Nat) (l : List Job) (A2 : Option Addr) (n2 c2 : Nat) (w : World) (R : RdJobs w A b off l) (hT : Tabs w) (hok : allOk l = true) (hn2 : 10000 < n2) (hn3 : n2 ≤ 140737488351232) :
    Calls Tryd.prog 17 #[.slice A l.length c, .slice A2 n2 c2] w fun e w' => e = .returned (.bool false) ∧ Below w.heap.size w w' := by
  have hall := all_any A b off c l w R hT
  rw [hok] at hall
  have HALL : Aside0 _ := ⟨hall⟩
  have hz : (10000 : Int) < (n2 : Int) := by omega
  clear hall R hT hok
  generalize l.length = n at *
  go_enter Tryd.func17, Tryd.ntmps17
  go_wp2_with (go_at_call 41; refine HALL.out.mono ?_; rintro e w1 ⟨rfl, hb1⟩)
  go_ret
  exact ⟨rfl, hb1⟩
set_option maxHeartbeats 1000000 in
theorem metBy_any (A : Option Addr) (b off c : Nat) (l : List Job) (A2 : Option Addr) (b2 off2 c2 : Nat) (t : List Int) (i : Nat) (w : World) (R : RdJobs w A b off l) (R2 : RdInts w A2 b2 off2 t) (hT : Tabs w) (hok : allOk l = true) (hi : i < l.length) :
    Calls Tryd.prog 72 #[.slice A l.length c, .slice A2 t.length c2, .int .i64 i] w fun e w' => e = .returned (.bool (Dov.metBy l t i)) ∧ Below w.heap.size w w' := by
  have hd := doneAt_any A b off c l A2 b2 off2 c2 t i w R R2 hT hok hi
  have hA := R.addr (by omega)
  subst hA
  have hrows : ∀ W, Below w.heap.size w W → Row W b (off + i * 8) (Rob.jb l i) := fun W hW => (R.below hW).row i hi
  have HROWS : Aside0 _ := ⟨hrows⟩
  have hF : Dov.metBy l t i = ((doneAt l t i).2 && decide ((doneAt l t i).1 ≤ (Rob.jb l i).dl) && (Rob.jb l i).runs) := rfl
  have HF := hide hF
  have hiz : (i : Int) < (l.length : Int) := by omega
  have hn := R.len
  have HD : Aside0 _ := ⟨hd⟩
  clear hd hrows hF R R2 hT hok
  generalize Dov.metBy l t i = r at *
  generalize doneAt l t i = D at *
  obtain ⟨at_, dn⟩ := D
  generalize Rob.jb l i = j at *
  generalize l.length = n at *
  generalize t.length = m at *
  simp only at HD HF
  cases dn with
  | false =>
    go_enter Tryd.func72, Tryd.ntmps72
    go_wp2_with (go_at_call 18; refine HD.out.mono ?_; rintro e w1 ⟨rfl, hb1⟩)
    go_ret
    exact ⟨ret_bool (by rw [HF.out]; rfl), hb1⟩
  | true =>
    by_cases hdl : at_ ≤ j.dl
    · have hdd := decide_eq_true hdl
      have HDD := hide hdl
      clear hdd
      go_enter Tryd.func72, Tryd.ntmps72
      go_wp2_with (first | (go_at_call 18; refine HD.out.mono ?_; rintro e w1 ⟨rfl, hb1⟩; obtain ⟨j0, j1, j2, j3, j4, j5, j6, j7⟩ := HROWS.out w1 hb1) | (go_at_call 19; refine (runs_any _ _ _ _ _ _ _ _ _).mono ?_; rintro e w2 ⟨rfl, hb2⟩))
      go_ret
      exact ⟨ret_bool (by rw [HF.out, decide_eq_true HDD.out]; rfl), below_then hb1 hb2⟩
    · have hdd := decide_eq_false hdl
      have HDD := hide hdd
      go_enter Tryd.func72, Tryd.ntmps72
      go_wp2_with (first | (go_at_call 18; refine HD.out.mono ?_; rintro e w1 ⟨rfl, hb1⟩; obtain ⟨j0, j1, j2, j3, j4, j5, j6, j7⟩ := HROWS.out w1 hb1))
      go_ret
      exact ⟨ret_bool (by rw [HF.out, HDD.out]; rfl), hb1⟩
theorem valueOf_bd (l : List Job) (t : List Int) (hok : ∀ j ∈ l, j.Ok) (k : Nat) (hk : k ≤ l.length) : 0 ≤ (List.range k).foldl (fun n i => if Dov.metBy l t i then n + (Rob.jb l i).val else n) 0 ∧ (List.range k).foldl (fun n i => if Dov.metBy l t i then n + (Rob.jb l i).val else n) 0 ≤ 1000000 * k := by
  induction k with
  | zero => simp
  | succ k ih =>
    have h1 := ih (by omega)
    have hj := Rob.jb_ok hok (show k < l.length by omega)
    have h2 := hj.val0
    have h3 := hj.val1
    rw [foldl_range_succ]
    split <;> omega
set_option maxHeartbeats 1000000 in
theorem value_any (A : Option Addr) (b off c : Nat) (l : List Job) (A2 : Option Addr) (b2 off2 c2 : Nat) (t : List Int) (w : World) (R : RdJobs w A b off l) (R2 : RdInts w A2 b2 off2 t) (hT : Tabs w) (hok : allOk l = true) (hl20 : l.length < 20) :
    Calls Tryd.prog 31 #[.slice A l.length c, .slice A2 t.length c2] w fun e w' => e = .returned (.int .i64 (Dov.valueOf l t)) ∧ Below w.heap.size w w' := by
  have hmet : ∀ k, k < l.length → ∀ W, Below w.heap.size w W → _ := fun k hk W hW => metBy_any A b off c l A2 b2 off2 c2 t k W (R.below hW) (R2.below hW) (hT.below hW) hok hk
  have hrows : ∀ k, k < l.length → ∀ W, Below w.heap.size w W → A = some ⟨b, off, none⟩ ∧ Row W b (off + k * 8) (Rob.jb l k) := fun k hk W hW => ⟨R.addr (by omega), (R.below hW).row k hk⟩
  have hbd := fun k hk => valueOf_bd l t (allGood_ok hok) k hk
  have hj : ∀ k, k < l.length → 0 ≤ (Rob.jb l k).val ∧ (Rob.jb l k).val ≤ 1000000 := fun k hk => by
    have h := Rob.jb_ok (allGood_ok hok) hk
    exact ⟨h.val0, h.val1⟩
  have HMET : Aside0 _ := ⟨hmet⟩
  have HROWS : Aside0 _ := ⟨hrows⟩
  have HBD : Aside0 _ := ⟨hbd⟩
  have HJ : Aside0 _ := ⟨hj⟩
  have hv : Dov.valueOf l t = (List.range l.length).foldl (fun n i => if Dov.metBy l t i then n + (Rob.jb l i).val else n) 0 := rfl
  have HV := hide hv
  obtain ⟨n, hn'⟩ : ∃ n, n = l.length := ⟨_, rfl⟩
  have HN := hide hn'
  rw [← hn'] at hl20 HMET ⊢
  clear hmet hrows hbd hj hv hn' R R2 hT hok
  generalize Dov.valueOf l t = V at *
  generalize t.length = m at *
  go_enter Tryd.func31, Tryd.ntmps31
  go_wp2
  go_loopw [5, 6, 9] (fun x _ q wr => ∃ k : Nat, k ≤ n ∧ q = .int .i64 k ∧ Aside0 (Below w.heap.size w wr) ∧ ∃ y : Int, x = .int .i64 y ∧ 0 ≤ y ∧ y ≤ 20000000 ∧ Hid (y = (List.range k).foldl (fun n i => if Dov.metBy l t i then n + (Rob.jb l i).val else n) 0)) (fun _ _ q _ => n - (intOf q).toNat)
  case atStart => exact ⟨0, by omega, rfl, ⟨Below.refl _ _⟩, 0, rfl, by omega, by omega, rfl⟩
  case round =>
    obtain ⟨k, hk, rfl, HB, y, rfl, hy0, hy1, HY⟩ := hrel
    by_cases hlt : k < n
    · have hkl : k < l.length := by rw [← HN.out]; exact hlt
      have hbk := HBD.out (k + 1) (by omega)
      have hjk := HJ.out k hkl
      have hme := HMET.out k hlt wr HB.out
      have hstep : (List.range (k + 1)).foldl (fun n i => if Dov.metBy l t i then n + (Rob.jb l i).val else n) 0 = if Dov.metBy l t k then y + (Rob.jb l k).val else y := by rw [foldl_range_succ, ← HY.out]
      rw [hstep] at hbk
      have HS := hide hstep
      have hro : ∀ W, Below wr.heap.size wr W → A = some ⟨b, off, none⟩ ∧ Row W b (off + k * 8) (Rob.jb l k) := fun W hW => HROWS.out k hkl W (below_then HB.out hW)
      have HRO : Aside0 _ := ⟨hro⟩
      have hAA := (hro wr (Below.refl _ _)).1
      subst hAA
      have hkz : (k : Int) < (n : Int) := by omega
      generalize Rob.jb l k = j at *
      obtain ⟨v0, v1⟩ := hjk
      cases hm : Dov.metBy l t k with
      | false =>
        rw [hm] at hme HS hbk
        have HME : Aside0 _ := ⟨hme⟩
        clear hme hm hstep hro hbk
        go_wp2_with (go_at_call 72; refine HME.out.mono ?_; rintro e w1 ⟨rfl, hb1⟩)
        go_roundw
        case rel => exact ⟨k + 1, by omega, by go_num, ⟨below_then HB.out hb1⟩, y, rfl, hy0, hy1, by show _ = _; rw [HS.out]; rfl⟩
        case measure => simp [intOf]; omega
      | true =>
        rw [hm] at hme HS hbk
        have HME : Aside0 _ := ⟨hme⟩
        rw [if_pos rfl] at hbk
        obtain ⟨b0', b1'⟩ := hbk
        have hb20 : y + j.val ≤ 20000000 := by omega
        clear hme hm hstep hro
        go_wp2_with (go_at_call 72; refine HME.out.mono ?_; rintro e w1 ⟨rfl, hb1⟩; obtain ⟨-, ⟨j0, j1, j2, j3, j4, j5, j6, j7⟩⟩ := HRO.out w1 hb1)
        go_roundw
        case rel => exact ⟨k + 1, by omega, by go_num, ⟨below_then HB.out hb1⟩, y + j.val, rfl, by omega, hb20, by show _ = _; rw [HS.out]; rfl⟩
        case measure => simp [intOf]; omega
    · go_wp2
      go_ret
      exact ⟨ret_int (by rw [HY.out, HV.out, show k = n by omega, HN.out]), HB.out⟩
end Go.Proofs.YtjgegnjclmkpeaaDoor
