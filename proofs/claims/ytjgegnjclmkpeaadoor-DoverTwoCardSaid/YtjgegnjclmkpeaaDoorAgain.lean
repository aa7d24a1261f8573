/- The robust runner: the walk of again. -/
import Derived.Test.YtjgegnjclmkpeaaDoorAgainCmp
set_option linter.unusedVariables false
set_option linter.unusedSimpArgs false
namespace Go.Proofs.YtjgegnjclmkpeaaDoor
open Go.RowKit Go.Sort Go.Proofs

theorem ints_fin {n : Nat} (L : List (Fin n)) : L.map encF = ints (L.map fun i => (i.val : Int)) := by
  simp [ints, encF, List.map_map, Function.comp_def]
/-- The places set aside, as places below n. -/
theorem fins_succ {n : Nat} (p : Nat → Bool) (k : Nat) (hk : k < n) (L : List (Fin n)) (h : L.map Fin.val = (List.range k).filter p) : (if p k then L ++ [⟨k, hk⟩] else L).map Fin.val = (List.range (k + 1)).filter p := by
  rw [List.range_succ, List.filter_append]
  cases hp : p k
  · simp [hp, h]
  · simp [hp, h]
section
variable {w0 w : World} {g : Nat} {A0 : Option Addr} {b0 o0 c0 : Nat} {l : List Job} {v : RV} {t : Int} {s : RS}
theorem again_sort {W0 wr : World} {box n : Nat} (hR0 : RAt w0 W0 g A0 b0 o0 c0 l v t s) (hn : n = l.length) (hn20 : n < 20) (hs0 : W0.heap.size = box + 1) (hg1 : g < box) (hbox : W0.cell? ⟨box, 0, none⟩ = some (.pointer (some ⟨g, 0, none⟩))) (hb : Below W0.heap.size W0 wr)
    (L : List (Fin n)) (hL : L.length ≤ n) (x : Value) (ho : wr.ownsRow W0.heap.size 3 1 x L.length (L.map encF)) :
    Calls Tryd.prog 102 #[x, againF box] wr fun e w' => e = .returned (.tuple #[]) ∧ (w'.ownsRow W0.heap.size 3 1 x L.length ((isort (ltF l) L).map encF) ∧ Below W0.heap.size W0 w') := by
  have hR := hR0.below hb
  rcases Joins.ownsRow_forms ho with ⟨rfl, h0⟩ | ⟨blk, cap, rfl⟩
  · refine sortInt_any (againF box) (.slice none 0 0) 0 ⟨_, _, rfl⟩ wr (by omega) _ ((insNil_any _ _ _ wr).mono ?_)
    rintro e w' ⟨rfl, rfl⟩
    have hL0 : L = [] := List.length_eq_zero_iff.1 h0
    subst hL0
    exact ⟨rfl, ho, hb⟩
  · have hblk : W0.heap.size ≤ blk := (ho.lt blk rfl).1
    have hpos : 0 < n → 0 < l.length := by omega
    rcases Nat.eq_zero_or_pos n with hz | hz
    · have hL0 : L = [] := List.length_eq_zero_iff.1 (by omega)
      subst hL0
      refine sortInt_any (againF box) (.slice (some ⟨blk, 0, none⟩) 0 cap) 0 ⟨_, _, rfl⟩ wr (by omega) _ ((insNil_any _ _ _ wr).mono ?_)
      rintro e w' ⟨rfl, rfl⟩
      exact ⟨rfl, ho, hb⟩
    · haveI : Inhabited (Fin n) := ⟨⟨0, hz⟩⟩
      obtain ⟨d0, -, -, -, -, -, -, -⟩ := hR.cells
      rw [← hn] at d0
      have hbx2 := (hb.cell (p := ⟨box, 0, none⟩) (by show box < _; omega)).trans hbox
      have C : Ctx wr box g A0 b0 o0 c0 n l blk := ⟨hn, hbx2, d0, hR.jobs, by omega, by omega, fun h0 => by have := hR0.jobs.lt h0; omega⟩
      refine sortInt_any (againF box) (.slice (some ⟨blk, 0, none⟩) L.length cap) L.length ⟨_, _, rfl⟩ wr (by omega) _ ((insInt_any box blk cap L wr C ho (by omega)).mono ?_)
      rintro e w' ⟨rfl, h1, h2⟩
      refine ⟨rfl, h1, ?_⟩
      exact below_own_grown hb ho (by rw [show (Value.slice (some ⟨blk, 0, none⟩) L.length cap).ownBlock = some blk from rfl]; exact h2)
set_option maxHeartbeats 4000000 in
set_option maxRecDepth 100000 in
theorem again_any (h : RAt w0 w g A0 b0 o0 c0 l v t s) (hT : Tabs w0) (F : Fine l t s) (hl20 : l.length < 20) (hag : s.ag.length ≤ 1000000000) :
    Calls Tryd.prog 99 #[.pointer (some ⟨g, 0, none⟩)] w fun e w' => e = .returned (.tuple #[]) ∧ ∃ v', RAt w0 w' g A0 b0 o0 c0 l v' t (Rob.again l t s) := by
  have hn := h.jobs.len
  have mixed : Tryd.prog.follows .mixedOrders = true := by kernel_rfl
  obtain ⟨n, hn'⟩ : ∃ n, n = l.length := ⟨_, rfl⟩
  have HN := hide hn'
  obtain ⟨W0, hW0⟩ : ∃ W0, W0 = w.alloc (.cells #[.pointer (some ⟨g, 0, none⟩)] 91 (0, 0)) := ⟨_, rfl⟩
  have hb0 : Below w.heap.size w W0 := by rw [hW0]; exact below_alloc (Below.refl _ w) _
  have hR0 := h.below hb0
  have hbox : W0.cell? ⟨w.heap.size, 0, none⟩ = some (.pointer (some ⟨g, 0, none⟩)) := by rw [hW0]; simp
  have hs0 : W0.heap.size = w.heap.size + 1 := by rw [hW0]; simp
  obtain ⟨d0, -, -, -, -, -, -, -⟩ := h.cells
  have hg1 := h.glt
  rw [← hn'] at hn d0 hl20
  clear hn'
  have HW0 := hide hW0
  have HH : Aside0 _ := ⟨h⟩
  have HR0 : Aside0 _ := ⟨hR0⟩
  have FF : Aside0 _ := ⟨F⟩
  have ht0 := F.t0
  have ht1 := F.t1
  have HBOX : Aside0 _ := ⟨hbox⟩
  obtain ⟨box, hbx⟩ : ∃ box, box = w.heap.size := ⟨_, rfl⟩
  have HBX := hide hbx
  clear h F hR0 hb0 hW0
  go_enter Tryd.func99, Tryd.ntmps99
  go_wp2_with fail
  rw [← HW0.out]
  rw [← HBX.out]
  rw [← HBX.out] at hbox hs0 HBOX hg1
  clear d0 hbx
  go_loopw [2, 3, 11] (fun x _ i wr => ∃ k : Nat, k ≤ n ∧ i = .int .i64 k ∧ Below W0.heap.size W0 wr ∧ ∃ L : List (Fin n), L.length ≤ k ∧ Aside0 (wr.ownsRow W0.heap.size 3 1 x L.length (L.map encF)) ∧ Hid (L.map Fin.val = (List.range k).filter fun i => Rob.opn s i 2)) (fun _ _ i _ => n - (intOf i).toNat)
  case atStart => exact ⟨0, by omega, rfl, Below.refl _ _, [], by simp, ⟨World.ownsRow_nil _ _ _ _⟩, rfl⟩
  case round =>
    obtain ⟨k, hk, rfl, hb, L, hLk, HO, HX⟩ := hrel
    by_cases hlt : k < n
    · have hkl : k < l.length := by rw [← HN.out]; exact hlt
      have hR := HR0.out.below hb
      have hbx2 := (hb.cell (p := ⟨box, 0, none⟩) (by show box < _; omega)).trans hbox
      have hopen : Aside0 _ := ⟨open_any hR k hkl 2⟩
      have hfs := fins_succ (fun i => Rob.opn s i 2) k hlt L HX.out
      have HFS := hide hfs
      clear hfs hR
      cases ho : Rob.opn s k 2 with
      | false =>
        rw [ho] at hopen
        go_wp2_with (go_at_call 55; refine hopen.out.mono ?_; rintro e w' ⟨rfl, rfl⟩)
        go_roundw
        case rel => exact ⟨k + 1, by omega, by go_num, hb, L, by omega, HO, by have := HFS.out; simp only [ho, Bool.false_eq_true, if_false] at this; exact this⟩
        case measure => simp [intOf]; omega
      | true =>
        rw [ho] at hopen
        obtain ⟨i0, hi, hzz⟩ := Option.map_eq_some_iff.1 (show (Tryd.prog.info? 3).map (fun i => (i.zero, i.size, i.bytes)) = some (some (.int .i64 0), 1, 8) by kernel_rfl)
        simp only [Prod.mk.injEq] at hzz
        obtain ⟨hz0, hz1, hz2⟩ := hzz
        have HI : Aside0 _ := ⟨And.intro hi (And.intro hz0 (And.intro hz1 hz2))⟩
        have ho2 := HO.out.alloc (.cells #[.int .i64 k] 3 (0, 0))
        have hs2 := Nat.le_trans hb.size (size_alloc wr (.cells #[.int .i64 k] 3 (0, 0)))
        have hL20 : L.length + 1 ≤ 20 := by omega
        clear hi hz0 hz1 hz2
        go_wp2_with (first | (go_at_call 55; refine hopen.out.mono ?_; rintro e w' ⟨rfl, rfl⟩) | (at_builtin; refine wpList_append_lies _ (by rfl) (.tmp 17) (.tmp 19) 25 (by rfl) W0.heap.size 3 i0 (.int .i64 0) 1 8 Tryd.underlying25 HI.out.1 HI.out.2.1 HI.out.2.2.1 HI.out.2.2.2 (by rfl) (by omega) u2 L.length (L.map encF) (by rfl) ho2 ⟨wr.heap.size, 0, none⟩ 1 1 [.int .i64 k] (by rfl) (by rfl) (World.news_of_block (heap_alloc_new _ _)) (cells1 k) (by omega) (by unfold maxLen; omega) (by omega) hs2 _ (by rfl) ?_; intro g2 cap2 w3 ho3 hg3 hat3 hlt3; have hb3 := below_own_grown (below_alloc hb (.cells #[.int .i64 k] 3 (0, 0))) ho2 hg3; have HO3 : Aside0 _ := ⟨ho3⟩; clear ho3 hg3 hat3))
        go_roundw
        case rel => exact ⟨k + 1, by omega, by go_num, hb3, L ++ [⟨k, hlt⟩], by simp; omega, ⟨by rw [List.length_append, List.map_append]; exact HO3.out⟩, by have := HFS.out; simp only [ho, if_true] at this; exact this⟩
        case measure => simp [intOf]; omega
    · obtain rfl : k = n := by omega
      have hsort := again_sort HR0.out HN.out hl20 hs0 hg1 hbox hb L hLk u2 HO.out
      have HSORT : Aside0 _ := ⟨hsort⟩
      obtain ⟨AL, cL, rfl⟩ : ∃ AL cL, u2 = .slice AL L.length cL := by
        rcases Joins.ownsRow_forms HO.out with ⟨rfl, h0⟩ | ⟨blk, cap, rfl⟩
        · exact ⟨none, 0, by rw [h0]⟩
        · exact ⟨_, _, rfl⟩
      have hperm := (isort_perm (ltF l) L).length_eq
      have hlist : (isort (ltF l) L).map Fin.val = Rob.againList l s := by
        unfold Rob.againList
        rw [← HN.out, ← HX.out]
        exact (isort_map (ltF l) Fin.val (fun a b => decide ((Rob.jb l b).val < (Rob.jb l a).val)) (fun x y => rfl) L).symm
      have HLIST := hide hlist
      clear hsort hlist
      generalize hLS : isort (ltF l) L = LS at HSORT hperm HLIST
      generalize hm : L.length = m at *
      clear hLS
      go_wp2_with (go_at_call 102; refine HSORT.out.mono ?_; rintro e w2 ⟨rfl, ho2, hb2⟩)
      have HO2 : Aside0 _ := ⟨ho2⟩
      clear ho2
      have hR2 := HR0.out.below hb2
      have hbx2 := (hb2.cell (p := ⟨box, 0, none⟩) (by show box < _; omega)).trans hbox
      have hag0 : ob v.Aag ≠ some box := fun he => by
        have := own_size HH.out.oag (g := box) (by rw [ob_slice]; exact he)
        have := HBX.out
        omega
      have hal0 : ob AL = none ∨ ob AL ≠ ob v.Aag := by
        rcases hA : ob AL with _ | q
        · exact .inl rfl
        · refine .inr (fun he => ?_)
          have h1 := own_size HH.out.oag (g := q) (by rw [ob_slice]; exact he.symm)
          have h2 := own_ge HO2.out (g := q) (by rw [ob_slice]; exact hA)
          have := HBX.out
          omega
      have hbis0 : v.bis < box := by have := HH.out.ltis; have := HBX.out; omega
      have HR2 : Aside0 _ := ⟨hR2⟩
      have HA0 := hide (And.intro hag0 hal0)
      clear hR2 hag0 hal0 hbox HSORT HO HX hlt hk hb
      go_loopw [5, 27] (fun _ i wr => ∃ k2 : Nat, k2 ≤ m ∧ i = .int .i64 k2 ∧ ∃ (sk : RS) (v' : RV), Aside0 (RAt w0 wr g A0 b0 o0 c0 l v' t sk) ∧ Hid (sk = ((LS.map Fin.val).take k2).foldl (Rob.again1 l t) s) ∧ Hid (sk.ran = s.ran) ∧ Aside0 (wr.ownsRow W0.heap.size 3 1 (.slice AL m cL) m (LS.map encF)) ∧ wr.cell? ⟨box, 0, none⟩ = some (.pointer (some ⟨g, 0, none⟩)) ∧ Hid (ob v'.Aag ≠ some box ∧ (ob AL = none ∨ ob AL ≠ ob v'.Aag)) ∧ v'.bis < box ∧ sk.ag.length ≤ 1000000000 + k2) (fun _ i _ => m - (intOf i).toNat)
      case atStart => exact ⟨0, by omega, rfl, s, v, HR2, rfl, rfl, HO2, hbx2, HA0, hbis0, by omega⟩
      case round =>
        clear hbx2 hbis0 HA0 HO2 HR2 hb2
        obtain ⟨k2, hk2, rfl, sk, v', HR, HS, HE, HO, hbx2, HA, hbis, hagl⟩ := hrel
        by_cases hlt : k2 < m
        · have hR := HR.out
          have Fk := FF.out.of_ran HE.out
          obtain ⟨gl, cap, hv⟩ := Joins.ownsRow_form HO.out (by omega)
          simp only [Value.slice.injEq] at hv
          obtain ⟨rfl, -, -⟩ := hv
          have hk3 : k2 < LS.length := by omega
          have hcell := HO.out.cellAt k2 (by omega)
          rw [List.getElem?_map, List.getElem?_eq_getElem hk3] at hcell
          have hstep : ((LS.map Fin.val).take (k2 + 1)).foldl (Rob.again1 l t) s = Rob.again1 l t sk (LS[k2]).val := by
            rw [List.take_succ_eq_append_getElem (by rw [List.length_map]; exact hk3), List.foldl_append, ← HS.out]
            simp
          have HSTEP := hide hstep
          clear hstep
          obtain ⟨⟨i, hi⟩, hix⟩ : ∃ x, x = LS[k2] := ⟨_, rfl⟩
          rw [← hix] at hcell HSTEP
          clear hix
          have hil : i < l.length := by rw [← HN.out]; exact hi
          have hcell2 : wr.cell? ⟨gl, k2, none⟩ = some (.int .i64 i) := hcell
          obtain ⟨-, d1, -, -, -, -, -, d7⟩ := hR.cells
          rw [← HN.out] at d1
          have hci := hR.cis i hil
          have hfi := hR.fis i
          have hne := hR.g_ne_is
          have hset := hR.set_is i 1
          have hO1 := HO.out.kept (grown_set wr v'.bis i (.int .i64 1)) (.inr (by
            simp only [Value.ownBlock, ne_eq, Option.some.injEq]
            intro he
            have := own_ge HO.out (g := gl) rfl
            omega))
          have hbx3 : (wr.setCell ⟨v'.bis, i, none⟩ (.int .i64 1)).cell? ⟨box, 0, none⟩ = some (.pointer (some ⟨g, 0, none⟩)) := (grown_set wr v'.bis i (.int .i64 1)).cell hbx2 (by simp; omega)
          clear hcell hR
          generalize hz : Rob.isAt sk i = z at hci
          clear hz
          go_wp2
          obtain ⟨s1, hs1⟩ : ∃ s1 : RS, s1 = { sk with is := sk.is.set i 1 } := ⟨_, rfl⟩
          rw [← hs1] at hset
          have HS1 := hide hs1
          have F1 : Fine l t s1 := Fk.of_ran (by rw [hs1])
          have hE1 : s1.ran = s.ran := by rw [hs1]; exact HE.out
          have hag1 : s1.ag.length ≤ 1000000000 + k2 := by rw [hs1]; exact hagl
          clear hs1 d1 d7 hci hfi hcell2 hbx2 HO HR HS HE
          generalize wr.setCell ⟨v'.bis, i, none⟩ (.int .i64 1) = W1 at *
          have hcs := bw_cells W1
          have hfit := fun p : BW W1 => calls_bw p (fits_any (hset.below p.h) hT F1 (by rw [← HN.out]; exact hl20) (t + 1))
          obtain ⟨-, -, -, -, -, -, e6, e7⟩ := hset.cells
          have hgW := hset.glt
          have hboxW : box < W1.heap.size := World.block_lt_of_cell? W1 ⟨box, 0, none⟩ hbx3
          have HSET : Aside0 _ := ⟨hset⟩
          have HO1 : Aside0 _ := ⟨hO1⟩
          have hw : IntKind.i64.wrap (t + 1) = t + 1 := by rw [IntKind.wrap_i64]; omega
          clear hset hO1
          cases hft : Rob.fits l s1 (t + 1) with
          | true =>
            rw [hft] at hfit
            have HFIT : Aside0 _ := ⟨hfit⟩
            clear hfit
            have HFT := hide hft
            clear hft
            refine wp_region_bw mixed (by kernel_rfl) ?_
            repeat (go_big_quiet_step ((go_at_call 96; exact HFIT.out _)))
            refine wpQuiet_nil ?_
            rintro w' ⟨p, rfl⟩
            have hR2 := HSET.out.below p.h
            have hO2 := HO1.out.kept (grown_of_below p.h none) (.inr (by simp [Value.ownBlock]))
            have hbx4 := (p.h.cell (p := ⟨box, 0, none⟩) hboxW).trans hbx3
            clear hcs HFIT hgW hboxW hbx3 e6 e7
            generalize p.W = W2 at *
            obtain ⟨-, -, -, -, -, -, e6, -⟩ := hR2.cells
            obtain ⟨i0, hi0, hzz⟩ := Option.map_eq_some_iff.1 (show (Tryd.prog.info? 3).map (fun i => (i.zero, i.size, i.bytes)) = some (some (.int .i64 0), 1, 8) by kernel_rfl)
            simp only [Prod.mk.injEq] at hzz
            obtain ⟨hz0, hz1, hz2⟩ := hzz
            have HI : Aside0 _ := ⟨And.intro hi0 (And.intro hz0 (And.intro hz1 hz2))⟩
            have hgW2 := hR2.glt
            have hboxW2 : box < W2.heap.size := World.block_lt_of_cell? W2 ⟨box, 0, none⟩ hbx4
            have hR3 := hR2.below ((below_alloc (Below.refl _ W2) (.cells #[.int .i64 i] 3 (0, 0))).drew)
            have hbxA := (((below_alloc (Below.refl _ W2) (.cells #[.int .i64 i] 3 (0, 0))).drew).cell (p := ⟨box, 0, none⟩) hboxW2).trans hbx4
            have HBXA : Aside0 _ := ⟨hbxA⟩
            clear hbxA
            have ho2 := hR3.oag
            have hs2 := hR3.base.size
            have HR3 : Aside0 _ := ⟨hR3⟩
            have HO2 : Aside0 _ := ⟨hO2⟩
            have hsb : s1.ag.length + 1 ≤ 2000000000 := by omega
            clear hi0 hz0 hz1 hz2 hR3 hR2 hO2
            go_wp2_with fail
            go_region_law (refine step_append_lies _ (by rfl) (.tmp 56) (.tmp 58) 25 (by rfl) w0.heap.size 3 i0 (.int .i64 0) 1 8 Tryd.underlying25 HI.out.1 HI.out.2.1 HI.out.2.2.1 HI.out.2.2.2 (by rfl) (by omega) (.slice v'.Aag s1.ag.length v'.cag) s1.ag.length (ints s1.ag) (by rfl) ho2 ⟨W2.heap.size, 0, none⟩ 1 1 [.int .i64 i] (by rfl) (by rfl) (World.news_of_block (heap_alloc_new W2 _)) (cells1 i) (by omega) (by unfold maxLen; omega) (by omega) hs2 _ (by rfl) ?_; intro g2 cap2 w3 ho3 hg3 hat3 hlt3; rw [ob_slice] at hg3 hat3; have bx3 := hg3.cell HBXA.out (Ne.symm HA.out.1); obtain ⟨c63, f63⟩ := HR3.out.row_cells ho2 hg3 6; obtain ⟨-, -, -, -, -, -, c64, -⟩ := HR3.out.cells; replace c63 := c63.trans c64; clear c64)
            all_goals
              have hgl0 := own_ge HO2.out (g := gl) rfl
              have hgl1 := own_size HO2.out (g := gl) rfl
              have hsz : (W2.alloc (.cells #[.int .i64 i] 3 (0, 0))).drew.heap.size = W2.heap.size + 1 := by show (W2.heap.push _).size = _; simp
              have hrp := HR3.out.push_ag hg3 ho3 (hat3.imp id (fun e => by rw [e]; exact Nat.le_refl _))
              have hneA : ob v'.Aag ≠ some gl := fun he => by
                rcases HA.out.2 with e | e
                · cases e
                · exact e he.symm
              have hO4 := ((HO2.out.alloc (.cells #[.int .i64 i] 3 (0, 0))).drew.kept hg3 (.inr (Ne.symm hneA))).kept (grown_set w3 g 6 (.slice (some ⟨g2, 0, none⟩) (s1.ag.length + 1) cap2)) (.inr (by simp only [Value.ownBlock, ne_eq, Option.some.injEq]; omega))
              have hbx6 := (grown_set w3 g 6 (.slice (some ⟨g2, 0, none⟩) (s1.ag.length + 1) cap2)).cell bx3 (by simp; omega)
              have hA2 : ob (some ⟨g2, 0, none⟩ : Option Addr) ≠ some box ∧ (ob (some ⟨gl, 0, none⟩ : Option Addr) = none ∨ ob (some ⟨gl, 0, none⟩ : Option Addr) ≠ ob (some ⟨g2, 0, none⟩ : Option Addr)) := by
                refine ⟨fun he => ?_, .inr (fun he => ?_)⟩
                · simp only [ob, Option.map_some, Option.some.injEq] at he
                  subst he
                  rcases hat3 with e | e
                  · exact HA.out.1 e
                  · omega
                · simp only [ob, Option.map_some, Option.some.injEq] at he
                  subst he
                  rcases hat3 with e | e
                  · exact hneA e
                  · omega
              have HRP : Aside0 _ := ⟨hrp⟩
              have HO4 : Aside0 _ := ⟨hO4⟩
              have HBX6 : Aside0 _ := ⟨hbx6⟩
              have HA2 := hide hA2
              clear hrp hO4 hbx6 hA2 hneA ho2 hs2 ho3 hg3 hat3 bx3
              go_wp2
              go_roundw
              case rel => exact ⟨k2 + 1, by omega, by go_num, _, _, HRP, by show _ = _; rw [HSTEP.out]; unfold Rob.again1; rw [← HS1.out, HFT.out]; simp [HS1.out], hE1, HO4, HBX6.out, HA2, hbis, by show (s1.ag ++ [(i : Int)]).length ≤ _; rw [List.length_append, List.length_singleton]; omega⟩
              case measure => simp [intOf]; omega
          | false =>
            rw [hft] at hfit
            have HFIT : Aside0 _ := ⟨hfit⟩
            clear hfit
            have HFT := hide hft
            clear hft
            refine wp_region_bw mixed (by kernel_rfl) ?_
            repeat (go_big_quiet_step ((go_at_call 96; exact HFIT.out _)))
            refine wpQuiet_nil ?_
            rintro w' ⟨p, rfl⟩
            have hR2 := HSET.out.below p.h
            have hO2 := HO1.out.kept (grown_of_below p.h none) (.inr (by simp [Value.ownBlock]))
            have hbx4 := (p.h.cell (p := ⟨box, 0, none⟩) hboxW).trans hbx3
            clear hcs HFIT hgW hboxW hbx3 e6 e7
            generalize p.W = W2 at *
            obtain ⟨-, d1, -, -, -, -, -, -⟩ := hR2.cells
            rw [← HN.out] at d1
            have hci := hR2.cis i hil
            have hfi := hR2.fis i
            have hset2 := hR2.set_is i 2
            have hO3 := hO2.kept (grown_set W2 v'.bis i (.int .i64 2)) (.inr (by
              simp only [Value.ownBlock, ne_eq, Option.some.injEq]
              intro he
              have := own_ge hO2 (g := gl) rfl
              omega))
            have hbx5 : (W2.setCell ⟨v'.bis, i, none⟩ (.int .i64 2)).cell? ⟨box, 0, none⟩ = some (.pointer (some ⟨g, 0, none⟩)) := (grown_set W2 v'.bis i (.int .i64 2)).cell hbx4 (by simp; omega)
            have HSET2 : Aside0 _ := ⟨hset2⟩
            have HO3 : Aside0 _ := ⟨hO3⟩
            have HBX5 : Aside0 _ := ⟨hbx5⟩
            clear hset2 hO3 hR2 hO2 hbx5
            generalize hz : Rob.isAt s1 i = z2 at hci
            clear hz
            go_wp2
            go_roundw
            case rel => exact ⟨k2 + 1, by omega, by go_num, _, v', HSET2, by show _ = _; rw [HSTEP.out]; unfold Rob.again1; rw [← HS1.out, HFT.out]; simp [HS1.out], hE1, HO3, HBX5.out, HA, hbis, by show s1.ag.length ≤ _; omega⟩
            case measure => simp [intOf]; omega
        · obtain rfl : k2 = m := by omega
          rw [List.take_of_length_le (by rw [List.length_map]; omega), HLIST.out] at HS
          go_wp2
          go_end0
          exact ⟨rfl, v', by
            have : Rob.again l t s = sk := by rw [HS.out]; rfl
            rw [this]; exact HR.out⟩
end
end Go.Proofs.YtjgegnjclmkpeaaDoor
