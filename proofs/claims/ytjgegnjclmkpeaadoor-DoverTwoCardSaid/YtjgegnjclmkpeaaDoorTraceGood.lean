/- Package trace: the walk of Good, at a trace that may be. -/
import Derived.Test.YtjgegnjclmkpeaaDoorTrace
set_option linter.unusedVariables false
set_option linter.unusedSimpArgs false
namespace Go.Proofs.YtjgegnjclmkpeaaDoor
open Go.RowKit Go.Sort Go.Proofs

theorem traceGo_cons (l : List Job) (tick : Int) (ran : List Int) (i : Int) (t : List Int) : traceGo l tick ran (i :: t) = if i = -1 then traceGo l (tick + 1) ran t else if i < 0 ∨ (l.length : Int) ≤ i ∨ tick < (l.getD i.toNat default).rel ∨ (l.getD i.toNat default).dl ≤ tick ∨ (l.getD i.toNat default).work ≤ ran.getD i.toNat 0 then false
    else traceGo l (tick + 1) (ran.set i.toNat (ran.getD i.toNat 0 + 1)) t := rfl
set_option maxHeartbeats 4000000 in
set_option maxRecDepth 100000 in
theorem traceGood_any (A : Option Addr) (b off c : Nat) (l : List Job) (A2 : Option Addr) (b2 off2 c2 : Nat) (t : List Int) (w : World) (R : RdJobs w A b off l) (R2 : RdInts w A2 b2 off2 t) (hT : Tabs w) (hok : allOk l = true) (htr : traceOk l t = true) :
    Calls Tryd.prog 17 #[.slice A l.length c, .slice A2 t.length c2] w fun e w' => e = .returned (.bool true) ∧ Below w.heap.size w w' := by
  have mixed : Tryd.prog.follows .mixedOrders = true := by kernel_rfl
  have hn := R.len
  have hlen : l.length ≤ 200 := allGood_len hok
  have htl : t.length ≤ 10000 ∧ traceGo l 0 (List.replicate l.length 0) t = true := by
    simpa [traceOk] using htr
  obtain ⟨htl, hgo⟩ := htl
  have hall := all_any A b off c l w R hT
  rw [hok] at hall
  have HALL : Aside0 _ := ⟨hall⟩
  have hokj : ∀ j ∈ l, j.ok = true := by
    have := hok
    unfold allOk allGood at this
    simp only [Bool.and_eq_true, List.all_eq_true] at this
    exact this.2
  have HOKJ := hide hokj
  have HR : Aside0 _ := ⟨R⟩
  have HR2 : Aside0 _ := ⟨R2⟩
  have HG := hide hgo
  have HT : Aside0 _ := ⟨hT⟩
  obtain ⟨n, hn'⟩ : ∃ n, n = l.length := ⟨_, rfl⟩
  obtain ⟨m, hm'⟩ : ∃ m, m = t.length := ⟨_, rfl⟩
  have HN := hide hn'
  have HM := hide hm'
  have hmk := made_int n (by omega)
  rw [← hn'] at hn HALL hlen ⊢
  rw [← hm'] at htl ⊢
  clear hn' hm' hall hokj R R2 hgo hT htr hok
  go_enter Tryd.func17, Tryd.ntmps17
  go_wp2_with (go_at_call 41; refine HALL.out.mono ?_; rintro e w1 ⟨rfl, hb1⟩)
  obtain ⟨W1, hW1⟩ : ∃ W1, W1 = w1.alloc (.cells (madeCells (Value.int .i64 0).cells n) 3 (0, 0)) := ⟨_, rfl⟩
  have ho1 : W1.ownsRow w.heap.size 3 1 (.slice (some ⟨w1.heap.size, 0, none⟩) n n) n (ints (List.replicate n 0)) := by rw [hW1]; exact own_madeI w1 _ n hb1.size (by omega)
  have hb2 : Below w.heap.size w W1 := by rw [hW1]; exact below_alloc hb1 _
  have hW1' : w1.alloc (.cells (madeCells #[.int .i64 0] n) 3 (0, 0)) = W1 := hW1.symm
  first | rw [hW1'] | rw [← hW1]
  have hgrlt : w.heap.size ≤ w1.heap.size := hb1.size
  generalize w1.heap.size = gr at ho1 hgrlt ⊢
  have HO1 : Aside0 _ := ⟨ho1⟩
  have HB2 : Aside0 _ := ⟨hb2⟩
  clear ho1 hb2 hW1 hW1' hmk hb1
  go_loopw [6, 7, 21] (fun _ _ q wr => ∃ k : Nat, k ≤ m ∧ q = .int .i64 k ∧ Aside0 (Below w.heap.size w wr) ∧ ∃ ran : List Int, Aside0 (wr.ownsRow w.heap.size 3 1 (.slice (some ⟨gr, 0, none⟩) n n) n (ints ran)) ∧ Hid (traceGo l k ran (t.drop k) = true) ∧ Hid (∀ i, i < n → 0 ≤ ran.getD i 0 ∧ ran.getD i 0 ≤ k)) (fun _ _ q _ => m - (intOf q).toNat)
  case atStart => exact ⟨0, by omega, rfl, HB2, List.replicate n 0, HO1, by show _ = _; rw [HN.out]; exact HG.out, by show ∀ i, _; intro i hi; rw [List.getD_eq_getElem?_getD, List.getElem?_replicate, if_pos hi]; simp⟩
  case round =>
    obtain ⟨k, hk, rfl, HB, ran, HO, HK, HRN⟩ := hrel
    by_cases hlt : k < m
    · have hkl : k < t.length := by rw [← HM.out]; exact hlt
      have hR2 := HR2.out.below HB.out
      have hA2 := hR2.addr (by omega)
      subst hA2
      have hc := hR2.c k hkl
      have hstep : traceGo l k ran (t.getD k 0 :: t.drop (k + 1)) = true := by rw [getD_int hkl, ← List.drop_eq_getElem_cons hkl]; exact HK.out
      rw [traceGo_cons] at hstep
      generalize t.getD k 0 = y at hc hstep
      by_cases hy : y = -1
      · subst hy
        rw [if_pos rfl] at hstep
        have HS := hide hstep
        clear hstep hR2
        go_wp2
        go_roundw
        case rel => exact ⟨k + 1, by omega, by go_num, HB, ran, HO, by show _ = _; rw [← HS.out]; norm_cast, by show ∀ i, _; intro i hi; have := HRN.out i hi; omega⟩
        case measure => simp [intOf]; omega
      · rw [if_neg hy] at hstep
        have hyb : (y == -1) = false := beq_eq_false_iff_ne.2 hy
        split at hstep
        · cases hstep
        · rename_i hbad
          simp only [not_or, Int.not_lt, Int.not_le] at hbad
          obtain ⟨f1, f2, f3, f4, f5⟩ := hbad
          obtain ⟨x, rfl⟩ : ∃ x : Nat, y = x := ⟨y.toNat, by omega⟩
          rw [Int.toNat_natCast] at f3 f4 f5 hstep
          have HS := hide hstep
          have hxl : x < l.length := by omega
          have hxn : x < n := by rw [HN.out]; exact hxl
          have hR := HR.out.below HB.out
          have hA := hR.addr (by omega)
          subst hA
          obtain ⟨j0, j1, j2, j3, j4, j5, j6, j7⟩ := hR.row x hxl
          have hnm := hR.names _ (Rob.jb_mem hxl)
          have hblt := hR.lt (by omega)
          have hokx := HOKJ.out _ (Rob.jb_mem hxl)
          change (k : Int) ≥ (Rob.jb l x).rel at f3
          change (k : Int) < (Rob.jb l x).dl at f4
          change ran.getD x 0 < (Rob.jb l x).work at f5
          have hTr := HT.out.below HB.out
          have hwork := fun p : BW wr => calls_bw p (work_any (Rob.jb l x).name (Rob.jb l x).rel (Rob.jb l x).dl (Rob.jb l x).bud (Rob.jb l x).act (Rob.jb l x).val (Rob.jb l x).cln (Rob.jb l x).hard p.W hnm (hTr.below p.h) hokx)
          have hwj : ∀ j : Job, Job.work ⟨j.name, j.rel, j.dl, j.bud, j.act, j.val, j.cln, j.hard⟩ = j.work := fun j => rfl
          rw [hwj] at hwork
          have hrc := own_int HO.out x hxn
          have hrf := HO.out.frozenAt x
          have hgl := own_size HO.out (g := gr) rfl
          have hrb := HRN.out x hxn
          have hcs := bw_cells wr
          have hlr : ran.length = n := by have := HO.out.1; rw [ints_length] at this; omega
          have HWORK : Aside0 _ := ⟨hwork⟩
          clear hwork hwj hR hR2 hTr hstep hokx
          generalize Rob.jb l x = j at *
          generalize j.work = wv at *
          generalize hr : ran.getD x 0 = r at *
          have HRR := hide hr
          clear hr
          obtain ⟨hr0, hr1⟩ := hrb
          have hd1 : decide ((x : Int) < 0) = false := decide_eq_false (by omega)
          have hd2 : decide ((n : Int) ≤ (x : Int)) = false := decide_eq_false (by omega)
          have hd2n : decide (n ≤ x) = false := decide_eq_false (by omega)
          have hd2p : ¬ (n ≤ x) := by omega
          have hd3 : decide ((k : Int) < j.rel) = false := decide_eq_false (by omega)
          have hd4 : decide (j.dl ≤ (k : Int)) = false := decide_eq_false (by omega)
          have hd5 : decide (wv ≤ r) = false := decide_eq_false (by omega)
          have hxz : (x : Int) < (n : Int) := by omega
          have HNM := hide hnm
          clear hnm f1 f2
          go_wp2_with fail
          refine wp_region_bw mixed (by kernel_rfl) ?_
          repeat (go_big_quiet_step ((go_at_call 57; exact HWORK.out _)))
          refine wpQuiet_nil ?_
          rintro w' ⟨p, rfl⟩
          have hb6 := p.h
          have ho6 := own_below HO.out hb6
          have hrc6 := own_int ho6 x hxn
          rw [HRR.out] at hrc6
          have hrf6 := ho6.frozenAt x
          have hst := (ho6.stored x (.int .i64 (r + 1))).1
          rw [ints_set] at hst
          have hbs : Below w.heap.size w (p.W.setCell ⟨gr, x, none⟩ (.int .i64 (r + 1))) := (below_then HB.out hb6).setCell hgrlt _
          have HST : Aside0 _ := ⟨hst⟩
          have HBS : Aside0 _ := ⟨hbs⟩
          clear hcs HWORK hrc hrf hgl hblt hst hbs hb6 ho6 j0 j1 j2 j3 j4 j5 j6 j7 hc
          generalize p.W = W6 at *
          go_wp2
          go_roundw
          case rel => exact ⟨k + 1, by omega, by go_num, HBS, ran.set x (r + 1), HST, by show _ = _; rw [← HS.out]; norm_cast, by
            show ∀ i, _
            intro i hi
            have h1 := HRN.out i hi
            rw [getD_set_eq]
            split
            · omega
            · omega⟩
          case measure => simp [intOf]; omega
    · go_wp2
      go_ret
      exact ⟨rfl, HB.out⟩
end Go.Proofs.YtjgegnjclmkpeaaDoor
