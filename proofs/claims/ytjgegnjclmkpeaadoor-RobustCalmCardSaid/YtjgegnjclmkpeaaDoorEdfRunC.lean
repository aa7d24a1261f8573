/- edf.run at the charges: the text of EdfRunW, turned. -/
import Derived.Test.YtjgegnjclmkpeaaDoorEdfRunW
set_option linter.unusedVariables false
set_option linter.unusedSimpArgs false
namespace Go.Proofs.YtjgegnjclmkpeaaDoor
open Go.RowKit Go.Sort Go.Proofs

section
variable {A0 : Option Addr} {b0 o0 c0 : Nat} {l : List Job}
set_option maxHeartbeats 4000000 in
set_option maxRecDepth 100000 in
theorem runCharge_any (w : World) (R : RdJobs w A0 b0 o0 l) (hT : Tabs w) (hok : allOk l = true) (hl20 : l.length < 20) (T : Nat) (hT1 : T ≤ 10000) :
    Calls Tryd.prog 58 #[.slice A0 l.length c0, .int .i64 T, .func (.func 59) #[] #[]] w fun e w' => Below w.heap.size w w' ∧ ∃ A' c', e = .returned (.slice A' T c') ∧ w'.ownsRow w.heap.size 3 1 (.slice A' T c') T (ints (Rob.edfAt l Job.charge T).2) := by
  have mixed : Tryd.prog.follows .mixedOrders = true := by kernel_rfl
  have hn := R.len
  obtain ⟨n, hn'⟩ : ∃ n, n = l.length := ⟨_, rfl⟩
  have HN := hide hn'
  have hokj : ∀ j ∈ l, j.ok = true := by
    have := hok
    unfold allOk allGood at this
    simp only [Bool.and_eq_true, List.all_eq_true] at this
    exact this.2
  have HOKJ := hide hokj
  obtain ⟨W1, hW1⟩ : ∃ W1, W1 = w.alloc (.cells #[.slice A0 n c0] 22 (0, 0)) := ⟨_, rfl⟩
  have hb1 : Below w.heap.size w W1 := by rw [hW1]; exact below_alloc (Below.refl _ w) _
  have hs1 : W1.heap.size = w.heap.size + 1 := by rw [hW1]; simp
  have hbox : W1.cell? ⟨w.heap.size, 0, none⟩ = some (.slice A0 n c0) := by rw [hW1]; simp
  have R1 := R.below hb1
  have T1 := hT.below hb1
  have hall := all_any A0 b0 o0 c0 l W1 R1 T1
  rw [hok, ← hn'] at hall
  have hbyd : ∀ W, Below W1.heap.size W1 W → Calls Tryd.prog 64 #[.slice A0 n c0] W fun e w' => Below W.heap.size W w' ∧ ∃ g, W.heap.size ≤ g ∧ e = .returned (.slice (some ⟨g, 0, none⟩) n n) ∧
      w'.ownsRow W.heap.size 3 1 (.slice (some ⟨g, 0, none⟩) n n) n (ints ((Rob.byDl l).map fun i : Nat => (i : Int))) := fun W hW => by
    have := byDl_any (c0 := c0) W (R1.below hW) hl20
    rw [← hn'] at this
    exact this
  have HALL : Aside0 _ := ⟨hall⟩
  have HBYD : Aside0 _ := ⟨hbyd⟩
  have HBOX : Aside0 _ := ⟨hbox⟩
  have HB1 : Aside0 _ := ⟨hb1⟩
  have HR1 : Aside0 _ := ⟨R1⟩
  have HT1 : Aside0 _ := ⟨T1⟩
  have HW1 := hide hW1
  have hmk := made_int n (by omega)
  rw [← hn'] at hn hl20 ⊢
  obtain ⟨lb, hlb⟩ : ∃ lb, lb = w.heap.size := ⟨_, rfl⟩
  have hcb : ∀ W, Below W1.heap.size W1 W → W.cell? ⟨w.heap.size, 0, none⟩ = some (.slice A0 n c0) := fun W hW => (hW.cell (p := ⟨w.heap.size, 0, none⟩) (by show w.heap.size < _; omega)).trans hbox
  have HCB : Aside0 _ := ⟨hcb⟩
  clear hn' hall hbyd hbox hb1 R1 T1 hW1 R hT hokj hok hcb
  go_enter Tryd.func58, Tryd.ntmps58
  go_wp2_with (first | (go_at_call 41; rw [← HW1.out]; refine HALL.out.mono ?_; rintro e w2 ⟨rfl, hb2⟩; have l2 := HCB.out w2 hb2) | (go_at_call 64; refine (HBYD.out w2 hb2).mono ?_; rintro e w3 ⟨hb3, go, hgo, rfl, ho3⟩; have l3 := HCB.out w3 (below_then hb2 hb3); have HO3 : Aside0 _ := ⟨ho3⟩; have hlb3 : w.heap.size < w3.heap.size := World.block_lt_of_cell? _ _ l3; clear ho3))
  have hb13 := below_then hb2 hb3
  have HB13 : Aside0 _ := ⟨hb13⟩
  have hgo3 := own_size HO3.out (g := go) rfl
  obtain ⟨gl, hgl⟩ : ∃ gl, gl = w3.heap.size := ⟨_, rfl⟩
  have ho4 : ((w3.alloc (Z1 n)).alloc (.cells #[.slice (some ⟨w3.heap.size, 0, none⟩) n n] 25 (0, 0))).ownsRow w3.heap.size 3 1 (.slice (some ⟨w3.heap.size, 0, none⟩) n n) n (ints (List.replicate n 0)) := (own_madeI w3 _ n (Nat.le_refl _) (by omega)).alloc _
  have hb4 : Below w3.heap.size w3 ((w3.alloc (Z1 n)).alloc (.cells #[.slice (some ⟨w3.heap.size, 0, none⟩) n n] 25 (0, 0))) := below_alloc (below_alloc (Below.refl _ w3) _) _
  have hf4 : ((w3.alloc (Z1 n)).alloc (.cells #[.slice (some ⟨w3.heap.size, 0, none⟩) n n] 25 (0, 0))).cell? ⟨w3.heap.size + 1, 0, none⟩ = some (.slice (some ⟨w3.heap.size, 0, none⟩) n n) := by
    have h1 := cell_of_heap (o := 0) (heap_alloc_new (w3.alloc (Z1 n)) (.cells #[.slice (some ⟨w3.heap.size, 0, none⟩) n n] 25 (0, 0)))
    rw [show (w3.alloc (Z1 n)).heap.size = w3.heap.size + 1 by simp] at h1
    exact h1
  change Code.wp _ _ _ _ ((w3.alloc (Z1 n)).alloc (.cells #[.slice (some ⟨w3.heap.size, 0, none⟩) n n] 25 (0, 0)))
  generalize ((w3.alloc (Z1 n)).alloc (.cells #[.slice (some ⟨w3.heap.size, 0, none⟩) n n] 25 (0, 0))) = W4 at *
  rw [← hgl] at ho4 hf4 hb4 hgo3 hlb3 ⊢
  have HGL := hide hgl
  have HO4 : Aside0 _ := ⟨ho4⟩
  have HB4 : Aside0 _ := ⟨hb4⟩
  clear ho4 hb4 hb13 hb2 hb3 l2 hmk hgl
  go_loopw [9, 10, 28] (fun _ _ q wr => ∃ k : Nat, k ≤ n ∧ q = .int .i64 k ∧ Aside0 (wr.ownsRow gl 3 1 (.slice (some ⟨gl, 0, none⟩) n n) n (ints ((l.take k).map Job.charge ++ List.replicate (n - k) 0))) ∧ Aside0 (Below gl w3 wr) ∧ wr.cell? ⟨gl + 1, 0, none⟩ = some (.slice (some ⟨gl, 0, none⟩) n n)) (fun _ _ q _ => n - (intOf q).toNat)
  case atStart => exact ⟨0, by omega, rfl, HO4, HB4, hf4⟩
  case round =>
    clear hf4
    obtain ⟨k, hk, rfl, HO, HB, hfb⟩ := hrel
    by_cases hlt : k < n
    · have hkl : k < l.length := by rw [← HN.out]; exact hlt
      have hbw : Below W1.heap.size W1 wr := HB13.out.trans (HB.out.mono (by rw [HGL.out]; exact HB13.out.size))
      have hRw := HR1.out.below hbw
      have hA := hRw.addr (by omega)
      subst hA
      obtain ⟨j0, j1, j2, j3, j4, j5, j6, j7⟩ := hRw.row k hkl
      have hnm := hRw.names _ (Rob.jb_mem hkl)
      have hokk := HOKJ.out _ (Rob.jb_mem hkl)
      have hTw := HT1.out.below hbw
      have hset := getD_map_need (l := l) Job.charge k hkl
      have HSET := hide hset
      obtain ⟨j, hj⟩ : ∃ j, j = Rob.jb l k := ⟨_, rfl⟩
      rw [← hj] at j0 j1 j2 j3 j4 j5 j6 j7 hnm hokk HSET
      clear hj hset hRw
      go_wp2_with fail
      obtain ⟨W5, hW, hb5, hk5, e0, e1, e2, e3, e4, e5, e6, e7⟩ := jbox wr j
      rw [hW]
      simp only [Nat.zero_add] at e0 e1 e2 e3 e4 e5 e6 e7
      have hfblt : gl + 1 < wr.heap.size := World.block_lt_of_cell? _ _ hfb
      have hf5 := (hb5.cell (p := ⟨gl + 1, 0, none⟩) hfblt).trans hfb
      have ho5 := own_below HO.out hb5
      have hc5 := own_int ho5 k hlt
      have hz5 := ho5.frozenAt k
      have hT5 := hTw.below hb5
      have hwork : ∀ W, Below W5.heap.size W5 W → Calls Tryd.prog 59 #[.agg #[.string j.name, .int .i64 j.rel, .int .i64 j.dl, .int .i64 j.bud, .int .i64 j.act, .int .i64 j.val, .int .i64 j.cln, .bool j.hard]] W fun e w' => e = .returned (.int .i64 (Job.charge j)) ∧ Below W.heap.size W w' :=
        fun W hW => charge_any _ _ _ _ _ _ _ _ W hnm (hT5.below hW) hokk
      have HWORK : Aside0 _ := ⟨hwork⟩
      have HO5 : Aside0 _ := ⟨ho5⟩
      have HB5 : Aside0 _ := ⟨hb5⟩
      have hs5 := hb5.size
      clear hwork ho5 hT5 hTw hW j0 j1 j2 j3 j4 j5 j6 j7 hfb hb5
      generalize Job.charge j = wv at HWORK HSET
      generalize List.getD _ k 0 = z5 at hc5
      go_region_law (go_simp; go_at_call 59; refine (HWORK.out W5.drew ((Below.refl _ _).drew)).mono ?_; rintro e w6 ⟨rfl, hb6⟩; have hf6 := (hb6.cell (p := ⟨gl + 1, 0, none⟩) (by show gl + 1 < W5.heap.size; omega)).trans hf5; have ho6 := own_drewBelow HO5.out hb6; have hc6 := own_int ho6 k hlt; have hz6 := ho6.frozenAt k; have HO6 : Aside0 _ := ⟨ho6⟩; have HB6 : Aside0 _ := ⟨hb6⟩; clear ho6 hb6)
      all_goals
        have hst := (HO6.out.stored k (.int .i64 wv)).1
        have hse := HSET.out
        rw [← HN.out] at hse
        rw [ints_set, hse] at hst
        have hgw : gl ≤ wr.heap.size := by omega
        have hbs := ((HB.out.trans (HB5.out.mono hgw)).trans (((Below.refl _ _).drew.trans HB6.out).mono (by show gl ≤ W5.heap.size; omega))).setCell (p := ⟨gl, k, none⟩) (Nat.le_refl _) (.int .i64 wv)
        have hfs := (grown_set w6 gl k (.int .i64 wv)).cell hf6 (by simp)
        have HST : Aside0 _ := ⟨hst⟩
        have HBS : Aside0 _ := ⟨hbs⟩
        have HFS : Aside0 _ := ⟨hfs⟩
        clear hst hse hbs hfs
        go_wp2
        go_roundw
        case rel => exact ⟨k + 1, by omega, by go_num, HST, HBS, HFS.out⟩
        case measure => simp [intOf]; omega
    · obtain rfl : k = n := by omega
      have ho := HO.out
      rw [Nat.sub_self, List.replicate_zero, List.append_nil, HN.out, List.take_of_length_le (Nat.le_refl _), ← HN.out] at ho
      have HOL : Aside0 _ := ⟨ho⟩
      have hmin : min (T : Int) 10000 = T := by omega
      clear HO ho hlt hk
      go_wp2
      go_loopw [11, 12, 13, 42] (fun x _ _ q wr2 => ∃ k2 : Nat, k2 ≤ T ∧ q = .int .i64 k2 ∧ Aside0 (wr2.ownsRow gl 3 1 (.slice (some ⟨gl, 0, none⟩) k k) k (ints (Rob.edfAt l Job.charge k2).1)) ∧ Aside0 (Below gl w3 wr2) ∧ wr2.cell? ⟨gl + 1, 0, none⟩ = some (.slice (some ⟨gl, 0, none⟩) k k) ∧ ∃ A' c', x = .slice A' k2 c' ∧ Aside0 (wr2.ownsRow (gl + 2) 3 1 (.slice A' k2 c') k2 (ints (Rob.edfAt l Job.charge k2).2))) (fun _ _ _ q _ => T - (intOf q).toNat)
      case atStart => exact ⟨0, by omega, rfl, HOL, HB, hfb, none, 0, rfl, ⟨World.ownsRow_nil _ _ _ _⟩⟩
      case round =>
        clear hfb HB HOL
        obtain ⟨k2, hk2, rfl, HO, HB, hfb, A', c', rfl, HT⟩ := hrel
        by_cases hlt : k2 < T
        · have hbw : Below W1.heap.size W1 wr := HB13.out.trans (HB.out.mono (by rw [HGL.out]; exact HB13.out.size))
          obtain ⟨W5, hW5⟩ : ∃ W5, W5 = wr.alloc (.cells #[.int .i64 k2] 3 (0, 0)) := ⟨_, rfl⟩
          have hb5 : Below wr.heap.size wr W5 := by rw [hW5]; exact below_alloc (Below.refl _ wr) _
          have htb : W5.cell? ⟨wr.heap.size, 0, none⟩ = some (.int .i64 k2) := by rw [hW5]; simp
          have hfblt : gl + 1 < wr.heap.size := World.block_lt_of_cell? _ _ hfb
          have hf5 := (hb5.cell (p := ⟨gl + 1, 0, none⟩) hfblt).trans hfb
          have hl5 := HCB.out W5 (below_then hbw hb5)
          have ho5 := own_below HO.out hb5
          have hgw : gl ≤ wr.heap.size := by omega
          have hord := own_below (HO3.out.kept (row := none) (w' := wr) (by
            have := HB.out
            rw [HGL.out] at this
            exact grown_of_below this none) (.inr (by simp [Value.ownBlock]))) hb5
          have hbl : ((Rob.byDl l).map fun i : Nat => (i : Int)).length = k := by
            rw [List.length_map, HN.out]
            unfold Rob.byDl
            rw [(isort_perm _ _).length_eq, List.length_range]
          have hbl2 : (Rob.byDl l).length = k := by rw [List.length_map] at hbl; exact hbl
          have hP : PCtx W5 w.heap.size wr.heap.size (gl + 1) gl A0 b0 o0 c0 l k2 (Rob.edfAt l Job.charge k2).1 :=
            ⟨HR1.out.below (below_then hbw hb5), by rw [← HN.out]; exact hl5, htb, by rw [← HN.out]; exact hf5, fun i hi => own_int ho5 i (by rw [HN.out]; exact hi)⟩
          have hRI : RdInts W5 (some ⟨go, 0, none⟩) go 0 ((Rob.byDl l).map fun i : Nat => (i : Int)) :=
            ⟨by omega, fun _ => rfl, fun _ => own_size hord rfl, fun i hi => by rw [Nat.zero_add]; exact own_int hord i (by omega)⟩
          have hidx := idx2_any hP (some ⟨go, 0, none⟩) go 0 k (Rob.byDl l) (fun x hx => (Rob.byDl_mem l x).1 hx) hRI hbl2
          have HIDX : Aside0 _ := ⟨hidx⟩
          have HW5 := hide hW5
          have HB5 : Aside0 _ := ⟨hb5⟩
          have HO5 : Aside0 _ := ⟨ho5⟩
          have HORD : Aside0 _ := ⟨hord⟩
          have HBL := hide hbl2
          have hw5s := hb5.size
          have hE := Rob.edfAt_succ l Job.charge k2
          have HE := hide hE
          obtain ⟨i0, hi0, hzz⟩ := Option.map_eq_some_iff.1 (show (Tryd.prog.info? 3).map (fun i => (i.zero, i.size, i.bytes)) = some (some (.int .i64 0), 1, 8) by kernel_rfl)
          simp only [Prod.mk.injEq] at hzz
          obtain ⟨hz0, hz1, hz2⟩ := hzz
          have HI : Aside0 _ := ⟨And.intro hi0 (And.intro hz0 (And.intro hz1 hz2))⟩
          clear hidx hW5 hb5 hord hP hRI hl5 htb hE ho5 hbl hbl2 hi0 hz0 hz1 hz2
          go_wp2_with fail
          rw [← HW5.out]
          go_at_call 100
          refine HIDX.out.mono ?_
          rintro e w6 ⟨hb6, ⟨q, hq, rfl, hfind⟩ | ⟨rfl, hfind⟩⟩
          · have hfp : Rob.pick l (Rob.edfAt l Job.charge k2).1 k2 = some ((Rob.byDl l).getD q 0) := hfind
            obtain ⟨hil, hpk, -⟩ := Rob.pick_some hfp
            have hord6 := own_int (own_below HORD.out hb6) q hq
            have hge : ((Rob.byDl l).map fun i : Nat => (i : Int)).getD q 0 = (((Rob.byDl l).getD q 0 : Nat) : Int) := by
              have h1 : q < (Rob.byDl l).length := by rw [HBL.out]; exact hq
              simp [List.getD_eq_getElem?_getD, List.getElem?_eq_getElem h1]
            rw [hge] at hord6
            have hes : Rob.edfAt l Job.charge (k2 + 1) = ((Rob.edfAt l Job.charge k2).1.set ((Rob.byDl l).getD q 0) ((Rob.edfAt l Job.charge k2).1.getD ((Rob.byDl l).getD q 0) 0 - 1), (Rob.edfAt l Job.charge k2).2 ++ [(((Rob.byDl l).getD q 0 : Nat) : Int)]) := by
              rw [HE.out]
              unfold Rob.edfStep
              rw [hfp]
            simp only [Rob.pickP, Bool.and_eq_true, decide_eq_true_eq] at hpk
            have hei := (Rob.einv_at l Job.charge k2).cnt _ hil
            generalize (Rob.byDl l).getD q 0 = i at hil hord6 hes hpk hei
            have hik : i < k := by rw [HN.out]; exact hil
            have hb56 := below_then HB5.out hb6
            have ho6 := own_below HO.out hb56
            have hc6 := own_int ho6 i hik
            have hz6 := ho6.frozenAt i
            have hst := (ho6.stored i (.int .i64 ((Rob.edfAt l Job.charge k2).1.getD i 0 - 1))).1
            rw [ints_set] at hst
            have hwk : (Rob.jb l i).charge ≤ 100000 := by
              have hO := Job.ok_of_good (HOKJ.out _ (Rob.jb_mem hil))
              have := hO.charge1
              omega
            have hv1 : (Rob.edfAt l Job.charge k2).1.getD i 0 ≤ 100000 := by omega
            have hv0 := hpk.2
            have HES := hide hes
            generalize (Rob.edfAt l Job.charge k2).1.getD i 0 = vi at hc6 hst HES hv0 hv1
            have hff := (hb56.cell (p := ⟨gl + 1, 0, none⟩) hfblt).trans hfb
            have hbb := HB.out.trans (hb56.mono hgw)
            have hTt := own_below HT.out hb56
            have hgo6 : go < w6.heap.size := own_size (own_below HORD.out hb6) rfl
            have hgogl : go ≠ gl := by omega
            have HST : Aside0 _ := ⟨hst⟩
            have HBB0 : Aside0 _ := ⟨hbb⟩
            have HTT : Aside0 _ := ⟨hTt⟩
            have HO6 : Aside0 _ := ⟨hord6⟩
            have hqz : (q : Int) < (k : Int) := by omega
            have hiz : (i : Int) < (k : Int) := by omega
            clear hes hfind hfp hge hpk hei ho6 hst hbb hTt hb56 hil hwk
            go_wp2_with fail
            go_region
            all_goals
              have hne0 : ob A' ≠ some gl := fun he => by have := own_ge HT.out (g := gl) (by rw [ob_slice]; exact he); omega
              have hne1 : ob A' ≠ some (gl + 1) := fun he => by have := own_ge HT.out (g := gl + 1) (by rw [ob_slice]; exact he); omega
              have hgs := grown_set w6 gl i (.int .i64 (vi - 1))
              have hof8 := HST.out.drew
              have ht8 := (HTT.out.kept hgs (.inr (by rw [ob_slice]; exact hne0))).drew
              have hff8 : (w6.setCell ⟨gl, i, none⟩ (.int .i64 (vi - 1))).drew.cell? ⟨gl + 1, 0, none⟩ = some (.slice (some ⟨gl, 0, none⟩) k k) := hgs.cell hff (by simp)
              have hor8 : (w6.setCell ⟨gl, i, none⟩ (.int .i64 (vi - 1))).drew.cell? ⟨go, q, none⟩ = some (.int .i64 i) := hgs.cell HO6.out (by simp; exact hgogl)
              have hbb8 := (HBB0.out.setCell (p := ⟨gl, i, none⟩) (Nat.le_refl _) (.int .i64 (vi - 1))).drew
              have hsz8 : (w6.setCell ⟨gl, i, none⟩ (.int .i64 (vi - 1))).drew.heap.size = w6.heap.size := by show (w6.setCell _ _).heap.size = _; simp [World.setCell]
              clear hgs hff hord6 hc6 hz6
              generalize (w6.setCell ⟨gl, i, none⟩ (.int .i64 (vi - 1))).drew = W8 at *
              have hgw8 : gl ≤ W8.heap.size := by have := hb6.size; omega
              have HOF : Aside0 _ := ⟨hof8⟩
              have HBB : Aside0 _ := ⟨hbb8⟩
              have HFF : Aside0 _ := ⟨hff8⟩
              have ho2 := ht8.alloc (.cells #[.int .i64 i] 3 (0, 0))
              have hs2 : gl + 2 ≤ (W8.alloc (.cells #[.int .i64 i] 3 (0, 0))).heap.size := Nat.le_trans (by have := hb6.size; omega) (size_alloc W8 _)
              clear hof8 hbb8 ht8 hsz8
              go_wp2_with (at_builtin; refine wpList_append_lies _ (by rfl) (.tmp 62) (.tmp 67) 25 (by rfl) (gl + 2) 3 i0 (.int .i64 0) 1 8 Tryd.underlying25 HI.out.1 HI.out.2.1 HI.out.2.2.1 HI.out.2.2.2 (by rfl) (by omega) (.slice A' k2 c') k2 (ints (Rob.edfAt l Job.charge k2).2) (by rfl) ho2 ⟨W8.heap.size, 0, none⟩ 1 1 [.int .i64 i] (by rfl) (by rfl) (World.news_of_block (heap_alloc_new W8 _)) (cells1 i) (by omega) (by unfold maxLen; omega) (by omega) hs2 _ (by rfl) ?_; intro g2 cap2 w7 ho7 hg7 hat7 hlt7)
              rw [ob_slice] at hg7
              have hof7 := (HOF.out.alloc (.cells #[.int .i64 i] 3 (0, 0))).kept hg7 (.inr (Ne.symm hne0))
              have hb7 := (HBB.out.trans ((below_alloc (Below.refl _ W8) (.cells #[.int .i64 i] 3 (0, 0))).mono hgw8)).grown hg7 (Nat.le_trans hgw8 (size_alloc W8 _)) (fun j hj => by have := own_ge HT.out (g := j) (by rw [ob_slice]; exact hj); omega)
              have hff7 := hg7.cell (((below_alloc (Below.refl _ W8) (.cells #[.int .i64 i] 3 (0, 0))).cell (p := ⟨gl + 1, 0, none⟩) (World.block_lt_of_cell? _ _ HFF.out)).trans HFF.out) (Ne.symm hne1)
              go_roundw
              case rel => exact ⟨k2 + 1, by omega, by go_num, ⟨by rw [HES.out]; exact hof7⟩, ⟨hb7⟩, hff7, _, _, rfl, ⟨by rw [HES.out, ints_snoc]; exact ho7⟩⟩
              case measure => simp [intOf]; omega
          · have hes : Rob.edfAt l Job.charge (k2 + 1) = ((Rob.edfAt l Job.charge k2).1, (Rob.edfAt l Job.charge k2).2 ++ [-1]) := by
              rw [HE.out]
              unfold Rob.edfStep Rob.pick
              rw [hfind]
            have HES := hide hes
            have hb56 := below_then HB5.out hb6
            have ho2 := (own_below HT.out hb56).alloc (.cells #[.int .i64 (-1)] 3 (0, 0))
            have hs2 : gl + 2 ≤ (w6.alloc (.cells #[.int .i64 (-1)] 3 (0, 0))).heap.size := Nat.le_trans (by omega) (Nat.le_trans hb56.size (size_alloc w6 _))
            have hof := own_below HO.out hb56
            have hff := (hb56.cell (p := ⟨gl + 1, 0, none⟩) hfblt).trans hfb
            have hbb := HB.out.trans (hb56.mono hgw)
            have HOF : Aside0 _ := ⟨hof⟩
            have HBB : Aside0 _ := ⟨hbb⟩
            have HFF : Aside0 _ := ⟨hff⟩
            clear hes hfind hof hbb hff hb56
            go_wp2_with (at_builtin; refine wpList_append_lies _ (by rfl) (.tmp 50) (.tmp 51) 25 (by rfl) (gl + 2) 3 i0 (.int .i64 0) 1 8 Tryd.underlying25 HI.out.1 HI.out.2.1 HI.out.2.2.1 HI.out.2.2.2 (by rfl) (by omega) (.slice A' k2 c') k2 (ints (Rob.edfAt l Job.charge k2).2) (by rfl) ho2 ⟨w6.heap.size, 0, none⟩ 1 1 [.int .i64 (-1)] (by rfl) (by rfl) (World.news_of_block (heap_alloc_new w6 _)) (cells1 (-1)) (by omega) (by unfold maxLen; omega) (by omega) hs2 _ (by rfl) ?_; intro g2 cap2 w7 ho7 hg7 hat7 hlt7)
            have hgw6 : gl ≤ w6.heap.size := Nat.le_trans (by omega) hb6.size
            rw [ob_slice] at hg7
            have hne0 : ob A' ≠ some gl := fun he => by have := own_ge HT.out (g := gl) (by rw [ob_slice]; exact he); omega
            have hne1 : ob A' ≠ some (gl + 1) := fun he => by have := own_ge HT.out (g := gl + 1) (by rw [ob_slice]; exact he); omega
            have hof7 := (HOF.out.alloc (.cells #[.int .i64 (-1)] 3 (0, 0))).kept hg7 (.inr (Ne.symm hne0))
            have hb7 := (HBB.out.trans ((below_alloc (Below.refl _ w6) (.cells #[.int .i64 (-1)] 3 (0, 0))).mono hgw6)).grown hg7 (Nat.le_trans hgw6 (size_alloc w6 _)) (fun j hj => by have := own_ge HT.out (g := j) (by rw [ob_slice]; exact hj); omega)
            have hff7 := hg7.cell (((below_alloc (Below.refl _ w6) (.cells #[.int .i64 (-1)] 3 (0, 0))).cell (p := ⟨gl + 1, 0, none⟩) (World.block_lt_of_cell? _ _ HFF.out)).trans HFF.out) (Ne.symm hne1)
            go_roundw
            case rel => exact ⟨k2 + 1, by omega, by go_num, ⟨by rw [HES.out]; exact hof7⟩, ⟨hb7⟩, hff7, _, _, rfl, ⟨by rw [HES.out, ints_snoc]; exact ho7⟩⟩
            case measure => simp [intOf]; omega
        · obtain rfl : k2 = T := by omega
          have hbf : Below w.heap.size w wr := below_then HB1.out (HB13.out.trans (HB.out.mono (by rw [HGL.out]; exact HB13.out.size)))
          have HBF : Aside0 _ := ⟨hbf⟩
          have hw3 : w.heap.size ≤ gl + 2 := by omega
          clear hbf
          go_wp2
          go_ret
          exact ⟨HBF.out, A', c', rfl, Joins.ownsRow_le HT.out hw3⟩
end
end Go.Proofs.YtjgegnjclmkpeaaDoor
