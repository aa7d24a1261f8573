/- edf.run's closure; slices.IndexFunc over places. edf.run: jobs by their deadlines, tick by tick. edf.run at the charges: the text of EdfRunW, turned. s[:d] of a row of whole numbers: the operation's run. edf.Run, edf.Meets. -/
import Derived.Test.YtjgegnjclmkpeaaDoorByDl
set_option linter.unusedVariables false
set_option linter.unusedSimpArgs false
namespace Go.Proofs.YtjgegnjclmkpeaaDoor
open Go.RowKit Go.Sort Go.Proofs

section
variable {A0 : Option Addr} {b0 o0 c0 : Nat} {l : List Job}
/-- What edf.run's closure takes of a world: the boxes of l, tick, left; the row left. -/
structure PCtx (w : World) (lb tb fb gl : Nat) (A0 : Option Addr) (b0 o0 c0 : Nat) (l : List Job) (t : Int) (left : List Int) : Prop where
  jobs : RdJobs w A0 b0 o0 l
  lbox : w.cell? ⟨lb, 0, none⟩ = some (.slice A0 l.length c0)
  tbox : w.cell? ⟨tb, 0, none⟩ = some (.int .i64 t)
  fbox : w.cell? ⟨fb, 0, none⟩ = some (.slice (some ⟨gl, 0, none⟩) l.length l.length)
  cl : ∀ i, i < l.length → w.cell? ⟨gl, i, none⟩ = some (.int .i64 (left.getD i 0))
theorem PCtx.below {w w' : World} {lb tb fb gl : Nat} {t : Int} {left : List Int} (h : PCtx w lb tb fb gl A0 b0 o0 c0 l t left) (hb : Below w.heap.size w w') : PCtx w' lb tb fb gl A0 b0 o0 c0 l t left :=
  ⟨h.jobs.below hb, (hb.cell (p := ⟨lb, 0, none⟩) (World.block_lt_of_cell? _ _ h.lbox)).trans h.lbox, (hb.cell (p := ⟨tb, 0, none⟩) (World.block_lt_of_cell? _ _ h.tbox)).trans h.tbox, (hb.cell (p := ⟨fb, 0, none⟩) (World.block_lt_of_cell? _ _ h.fbox)).trans h.fbox,
    fun i hi => (hb.cell (p := ⟨gl, i, none⟩) (World.block_lt_of_cell? _ _ (h.cl i hi))).trans (h.cl i hi)⟩
set_option maxHeartbeats 2000000 in
theorem pred_any {w : World} {lb tb fb gl : Nat} {t : Int} {left : List Int} (h : PCtx w lb tb fb gl A0 b0 o0 c0 l t left) (x : Nat) (hx : x < l.length) :
    Calls Tryd.prog 101 #[.int .i64 x, .pointer (some ⟨lb, 0, none⟩), .pointer (some ⟨tb, 0, none⟩), .pointer (some ⟨fb, 0, none⟩)] w fun e w' => e = .returned (.bool (Rob.pickP l left t x)) ∧ Below w.heap.size w w' := by
  have mixed : Tryd.prog.follows .mixedOrders = true := by kernel_rfl
  have hA := h.jobs.addr (by omega)
  subst hA
  obtain ⟨-, j1, -, -, -, -, -, -⟩ := h.jobs.row x hx
  have hl := h.lbox
  have ht := h.tbox
  have hf := h.fbox
  have hc := h.cl x hx
  have hlen := h.jobs.len
  have hF : Rob.pickP l left t x = (decide ((Rob.jb l x).rel ≤ t) && decide (0 < left.getD x 0)) := rfl
  clear h
  rw [hF]
  clear hF
  generalize (Rob.jb l x).rel = r at *
  generalize left.getD x 0 = v at *
  generalize l.length = n at *
  have hxz : (x : Int) < (n : Int) := by omega
  by_cases h1 : r ≤ t
  · have hd1 : decide (r ≤ t) = true := decide_eq_true h1
    have HD1 := hide hd1
    by_cases h2 : 0 < v
    · have hd2 : decide (0 < v) = true := decide_eq_true h2
      have HD2 := hide hd2
      go_enter Tryd.func101, Tryd.ntmps101
      go_wp2_with fail
      go_quiet (fail)
      go_wp2
      go_ret
      exact ⟨ret_bool (by rw [HD1.out, HD2.out]; rfl), below_drewN (Below.refl _ _) _⟩
    · have hd2 : decide (0 < v) = false := decide_eq_false h2
      have HD2 := hide hd2
      go_enter Tryd.func101, Tryd.ntmps101
      go_wp2_with fail
      go_quiet (fail)
      go_wp2
      go_ret
      exact ⟨ret_bool (by rw [HD1.out, HD2.out]; rfl), below_drewN (Below.refl _ _) _⟩
  · have hd1 : decide (r ≤ t) = false := decide_eq_false h1
    have HD1 := hide hd1
    go_enter Tryd.func101, Tryd.ntmps101
    go_wp2_with fail
    go_quiet (fail)
    go_wp2
    go_ret
    exact ⟨ret_bool (by rw [HD1.out]; rfl), below_drewN (Below.refl _ _) _⟩
theorem find_take_succ {α : Type} (p : α → Bool) (r : List α) (k : Nat) (hk : k < r.length) (h : (r.take k).find? p = none) : (p r[k] = true → r.find? p = some r[k]) ∧ (p r[k] = false → (r.take (k + 1)).find? p = none) := by
  refine ⟨fun hp => ?_, fun hp => ?_⟩
  · have e : r.find? p = (r.take k ++ r.drop k).find? p := by rw [List.take_append_drop]
    rw [e, List.find?_append, h, List.drop_eq_getElem_cons hk]
    simp only [List.find?_cons, hp, Option.none_or]
  · rw [List.take_succ_eq_append_getElem hk, List.find?_append, h]
    simp [hp]
set_option maxHeartbeats 2000000 in
theorem idx_any {w : World} {lb tb fb gl : Nat} {t : Int} {left : List Int} (h : PCtx w lb tb fb gl A0 b0 o0 c0 l t left) (A : Option Addr) (b off c : Nat) (r : List Nat) (hr : ∀ x ∈ r, x < l.length) (R : RdInts w A b off (r.map fun i : Nat => (i : Int))) :
    Calls Tryd.prog 100 #[.slice A r.length c, .func (.func 101) #[] #[.pointer (some ⟨lb, 0, none⟩), .pointer (some ⟨tb, 0, none⟩), .pointer (some ⟨fb, 0, none⟩)]] w fun e w' =>
      Below w.heap.size w w' ∧ ((∃ k : Nat, ∃ hk : k < r.length, e = .returned (.int .i64 k) ∧ r.find? (Rob.pickP l left t) = some r[k]) ∨ (e = .returned (.int .i64 (-1)) ∧ r.find? (Rob.pickP l left t) = none)) := by
  have hn : r.length ≤ 1000000000 := by have := R.len; rwa [List.length_map] at this
  obtain ⟨n, hn'⟩ : ∃ n, n = r.length := ⟨_, rfl⟩
  have HN := hide hn'
  have HP : Aside0 _ := ⟨h⟩
  have HRR := hide hr
  rw [← hn'] at hn
  have hgoal : (Calls Tryd.prog 100 #[.slice A n c, .func (.func 101) #[] #[.pointer (some ⟨lb, 0, none⟩), .pointer (some ⟨tb, 0, none⟩), .pointer (some ⟨fb, 0, none⟩)]] w fun e w' =>
      Below w.heap.size w w' ∧ ((∃ k : Nat, ∃ hk : k < r.length, e = .returned (.int .i64 k) ∧ r.find? (Rob.pickP l left t) = some r[k]) ∨ (e = .returned (.int .i64 (-1)) ∧ r.find? (Rob.pickP l left t) = none))) := by
    have HR : Aside0 _ := ⟨R⟩
    clear hn' h hr R
    go_enter Tryd.func100, Tryd.ntmps100
    go_wp2
    go_loopw [5, 8] (fun _ i wr => ∃ k : Nat, k ≤ n ∧ i = .int .i64 k ∧ Below w.heap.size w wr ∧ Hid ((r.take k).find? (Rob.pickP l left t) = none)) (fun _ i _ => n - (intOf i).toNat)
    case atStart => exact ⟨0, by omega, rfl, Below.refl _ _, rfl⟩
    case round =>
      obtain ⟨k, hk, rfl, hb, HA⟩ := hrel
      by_cases hlt : k < n
      · have hkl : k < r.length := by rw [← HN.out]; exact hlt
        have hAA := HR.out.addr (by rw [List.length_map]; omega)
        subst hAA
        have hc := (HR.out.below hb).c k (by rw [List.length_map]; exact hkl)
        have hge : (r.map fun i : Nat => (i : Int)).getD k 0 = (r[k] : Int) := by simp [List.getD_eq_getElem?_getD, List.getElem?_eq_getElem hkl]
        rw [hge] at hc
        obtain ⟨s1, s2⟩ := find_take_succ _ r k hkl HA.out
        have hpred := pred_any (HP.out.below hb) r[k] (HRR.out _ (List.getElem_mem hkl))
        have S1 := hide s1
        have S2 := hide s2
        have HB : Aside0 _ := ⟨hb⟩
        clear s1 s2 hge hb
        generalize hx : r[k] = x at hc hpred S1 S2
        have HX := hide hx
        clear hx
        cases hg : Rob.pickP l left t x with
        | true =>
          rw [hg] at hpred
          have HPR : Aside0 _ := ⟨hpred⟩
          have HGG := hide hg
          clear hg hpred
          go_wp2_with (go_at_call 101; refine HPR.out.mono ?_; rintro e w3 ⟨rfl, hb3⟩)
          go_ret
          exact ⟨below_then HB.out hb3, .inl ⟨k, hkl, rfl, by rw [HX.out]; exact S1.out HGG.out⟩⟩
        | false =>
          rw [hg] at hpred
          have HPR : Aside0 _ := ⟨hpred⟩
          have HGG := hide hg
          clear hg hpred
          go_wp2_with (go_at_call 101; refine HPR.out.mono ?_; rintro e w3 ⟨rfl, hb3⟩)
          go_roundw
          case rel => exact ⟨k + 1, by omega, by go_num, below_then HB.out hb3, S2.out HGG.out⟩
          case measure => simp [intOf]; omega
      · have hfin : r.find? (Rob.pickP l left t) = none := by
          have := HA.out
          rwa [List.take_of_length_le (by rw [← HN.out]; omega)] at this
        have HF := hide hfin
        clear hfin
        go_wp2
        go_ret
        exact ⟨hb, .inr ⟨rfl, HF.out⟩⟩
  subst hn'
  exact hgoal
end
end Go.Proofs.YtjgegnjclmkpeaaDoor
set_option linter.unusedVariables false
set_option linter.unusedSimpArgs false
namespace Go.Proofs.YtjgegnjclmkpeaaDoor
open Go.RowKit Go.Sort Go.Proofs

section
variable {A0 : Option Addr} {b0 o0 c0 : Nat} {l : List Job}
theorem getD_map_need (need : Job → Int) (k : Nat) (hk : k < l.length) : ((l.take k).map need ++ List.replicate (l.length - k) 0).set k (need (Rob.jb l k)) = (l.take (k + 1)).map need ++ List.replicate (l.length - (k + 1)) 0 := by
  rw [List.set_append_right _ _ (by simp; omega)]
  have e : k - ((l.take k).map need).length = 0 := by simp; omega
  rw [e, show l.length - k = (l.length - (k + 1)) + 1 by omega, List.replicate_succ, List.set_cons_zero, List.take_succ_eq_append_getElem hk, List.map_append, List.append_assoc, Rob.jb_get hk]
  rfl
theorem idx2_any {w : World} {lb tb fb gl n : Nat} {t : Int} {left : List Int} (h : PCtx w lb tb fb gl A0 b0 o0 c0 l t left) (A : Option Addr) (b off c : Nat) (r : List Nat) (hr : ∀ x ∈ r, x < l.length) (R : RdInts w A b off (r.map fun i : Nat => (i : Int))) (hn : r.length = n) :
    Calls Tryd.prog 100 #[.slice A n c, .func (.func 101) #[] #[.pointer (some ⟨lb, 0, none⟩), .pointer (some ⟨tb, 0, none⟩), .pointer (some ⟨fb, 0, none⟩)]] w fun e w' =>
      Below w.heap.size w w' ∧ ((∃ k : Nat, k < n ∧ e = .returned (.int .i64 k) ∧ r.find? (Rob.pickP l left t) = some (r.getD k 0)) ∨ (e = .returned (.int .i64 (-1)) ∧ r.find? (Rob.pickP l left t) = none)) := by
  subst hn
  refine (idx_any h A b off c r hr R).mono ?_
  rintro e w' ⟨hb, ⟨k, hk, rfl, hf⟩ | h2⟩
  · refine ⟨hb, .inl ⟨k, hk, rfl, ?_⟩⟩
    rw [hf]; simp [List.getD_eq_getElem?_getD, List.getElem?_eq_getElem hk]
  · exact ⟨hb, .inr h2⟩
set_option maxHeartbeats 4000000 in
set_option maxRecDepth 100000 in
theorem runWork_any (w : World) (R : RdJobs w A0 b0 o0 l) (hT : Tabs w) (hok : allOk l = true) (hl20 : l.length < 20) (T : Nat) (hT1 : T ≤ 10000) :
    Calls Tryd.prog 58 #[.slice A0 l.length c0, .int .i64 T, .func (.func 57) #[] #[]] w fun e w' => Below w.heap.size w w' ∧ ∃ A' c', e = .returned (.slice A' T c') ∧ w'.ownsRow w.heap.size 3 1 (.slice A' T c') T (ints (Rob.edfAt l Job.work T).2) := by
  have mixed : Tryd.prog.follows .mixedOrders = true := by kernel_rfl
  have hn := R.len
  obtain ⟨n, hn'⟩ : ∃ n, n = l.length := ⟨_, rfl⟩
  have HN := hide hn'
  have hokj : ∀ j ∈ l, j.ok = true := by
    have := hok
    unfold allOk allGood at this
    simp only [Bool.and_eq_true, List.all_eq_true] at this
    exact this.2
  have HOKJ := hide hokj
  obtain ⟨W1, hW1⟩ : ∃ W1, W1 = w.alloc (.cells #[.slice A0 n c0] 22 (0, 0)) := ⟨_, rfl⟩
  have hb1 : Below w.heap.size w W1 := by rw [hW1]; exact below_alloc (Below.refl _ w) _
  have hs1 : W1.heap.size = w.heap.size + 1 := by rw [hW1]; simp
  have hbox : W1.cell? ⟨w.heap.size, 0, none⟩ = some (.slice A0 n c0) := by rw [hW1]; simp
  have R1 := R.below hb1
  have T1 := hT.below hb1
  have hall := all_any A0 b0 o0 c0 l W1 R1 T1
  rw [hok, ← hn'] at hall
  have hbyd : ∀ W, Below W1.heap.size W1 W → Calls Tryd.prog 64 #[.slice A0 n c0] W fun e w' => Below W.heap.size W w' ∧ ∃ g, W.heap.size ≤ g ∧ e = .returned (.slice (some ⟨g, 0, none⟩) n n) ∧
      w'.ownsRow W.heap.size 3 1 (.slice (some ⟨g, 0, none⟩) n n) n (ints ((Rob.byDl l).map fun i : Nat => (i : Int))) := fun W hW => by
    have := byDl_any (c0 := c0) W (R1.below hW) hl20
    rw [← hn'] at this
    exact this
  have HALL : Aside0 _ := ⟨hall⟩
  have HBYD : Aside0 _ := ⟨hbyd⟩
  have HBOX : Aside0 _ := ⟨hbox⟩
  have HB1 : Aside0 _ := ⟨hb1⟩
  have HR1 : Aside0 _ := ⟨R1⟩
  have HT1 : Aside0 _ := ⟨T1⟩
  have HW1 := hide hW1
  have hmk := made_int n (by omega)
  rw [← hn'] at hn hl20 ⊢
  obtain ⟨lb, hlb⟩ : ∃ lb, lb = w.heap.size := ⟨_, rfl⟩
  have hcb : ∀ W, Below W1.heap.size W1 W → W.cell? ⟨w.heap.size, 0, none⟩ = some (.slice A0 n c0) := fun W hW => (hW.cell (p := ⟨w.heap.size, 0, none⟩) (by show w.heap.size < _; omega)).trans hbox
  have HCB : Aside0 _ := ⟨hcb⟩
  clear hn' hall hbyd hbox hb1 R1 T1 hW1 R hT hokj hok hcb
  go_enter Tryd.func58, Tryd.ntmps58
  go_wp2_with (first | (go_at_call 41; rw [← HW1.out]; refine HALL.out.mono ?_; rintro e w2 ⟨rfl, hb2⟩; have l2 := HCB.out w2 hb2) | (go_at_call 64; refine (HBYD.out w2 hb2).mono ?_; rintro e w3 ⟨hb3, go, hgo, rfl, ho3⟩; have l3 := HCB.out w3 (below_then hb2 hb3); have HO3 : Aside0 _ := ⟨ho3⟩; have hlb3 : w.heap.size < w3.heap.size := World.block_lt_of_cell? _ _ l3; clear ho3))
  have hb13 := below_then hb2 hb3
  have HB13 : Aside0 _ := ⟨hb13⟩
  have hgo3 := own_size HO3.out (g := go) rfl
  obtain ⟨gl, hgl⟩ : ∃ gl, gl = w3.heap.size := ⟨_, rfl⟩
  have ho4 : ((w3.alloc (Z1 n)).alloc (.cells #[.slice (some ⟨w3.heap.size, 0, none⟩) n n] 25 (0, 0))).ownsRow w3.heap.size 3 1 (.slice (some ⟨w3.heap.size, 0, none⟩) n n) n (ints (List.replicate n 0)) := (own_madeI w3 _ n (Nat.le_refl _) (by omega)).alloc _
  have hb4 : Below w3.heap.size w3 ((w3.alloc (Z1 n)).alloc (.cells #[.slice (some ⟨w3.heap.size, 0, none⟩) n n] 25 (0, 0))) := below_alloc (below_alloc (Below.refl _ w3) _) _
  have hf4 : ((w3.alloc (Z1 n)).alloc (.cells #[.slice (some ⟨w3.heap.size, 0, none⟩) n n] 25 (0, 0))).cell? ⟨w3.heap.size + 1, 0, none⟩ = some (.slice (some ⟨w3.heap.size, 0, none⟩) n n) := by
    have h1 := cell_of_heap (o := 0) (heap_alloc_new (w3.alloc (Z1 n)) (.cells #[.slice (some ⟨w3.heap.size, 0, none⟩) n n] 25 (0, 0)))
    rw [show (w3.alloc (Z1 n)).heap.size = w3.heap.size + 1 by simp] at h1
    exact h1
  change Code.wp _ _ _ _ ((w3.alloc (Z1 n)).alloc (.cells #[.slice (some ⟨w3.heap.size, 0, none⟩) n n] 25 (0, 0)))
  generalize ((w3.alloc (Z1 n)).alloc (.cells #[.slice (some ⟨w3.heap.size, 0, none⟩) n n] 25 (0, 0))) = W4 at *
  rw [← hgl] at ho4 hf4 hb4 hgo3 hlb3 ⊢
  have HGL := hide hgl
  have HO4 : Aside0 _ := ⟨ho4⟩
  have HB4 : Aside0 _ := ⟨hb4⟩
  clear ho4 hb4 hb13 hb2 hb3 l2 hmk hgl
  go_loopw [9, 10, 28] (fun _ _ q wr => ∃ k : Nat, k ≤ n ∧ q = .int .i64 k ∧ Aside0 (wr.ownsRow gl 3 1 (.slice (some ⟨gl, 0, none⟩) n n) n (ints ((l.take k).map Job.work ++ List.replicate (n - k) 0))) ∧ Aside0 (Below gl w3 wr) ∧ wr.cell? ⟨gl + 1, 0, none⟩ = some (.slice (some ⟨gl, 0, none⟩) n n)) (fun _ _ q _ => n - (intOf q).toNat)
  case atStart => exact ⟨0, by omega, rfl, HO4, HB4, hf4⟩
  case round =>
    clear hf4
    obtain ⟨k, hk, rfl, HO, HB, hfb⟩ := hrel
    by_cases hlt : k < n
    · have hkl : k < l.length := by rw [← HN.out]; exact hlt
      have hbw : Below W1.heap.size W1 wr := HB13.out.trans (HB.out.mono (by rw [HGL.out]; exact HB13.out.size))
      have hRw := HR1.out.below hbw
      have hA := hRw.addr (by omega)
      subst hA
      obtain ⟨j0, j1, j2, j3, j4, j5, j6, j7⟩ := hRw.row k hkl
      have hnm := hRw.names _ (Rob.jb_mem hkl)
      have hokk := HOKJ.out _ (Rob.jb_mem hkl)
      have hTw := HT1.out.below hbw
      have hset := getD_map_need (l := l) Job.work k hkl
      have HSET := hide hset
      obtain ⟨j, hj⟩ : ∃ j, j = Rob.jb l k := ⟨_, rfl⟩
      rw [← hj] at j0 j1 j2 j3 j4 j5 j6 j7 hnm hokk HSET
      clear hj hset hRw
      go_wp2_with fail
      obtain ⟨W5, hW, hb5, hk5, e0, e1, e2, e3, e4, e5, e6, e7⟩ := jbox wr j
      rw [hW]
      simp only [Nat.zero_add] at e0 e1 e2 e3 e4 e5 e6 e7
      have hfblt : gl + 1 < wr.heap.size := World.block_lt_of_cell? _ _ hfb
      have hf5 := (hb5.cell (p := ⟨gl + 1, 0, none⟩) hfblt).trans hfb
      have ho5 := own_below HO.out hb5
      have hc5 := own_int ho5 k hlt
      have hz5 := ho5.frozenAt k
      have hT5 := hTw.below hb5
      have hwork : ∀ W, Below W5.heap.size W5 W → Calls Tryd.prog 57 #[.agg #[.string j.name, .int .i64 j.rel, .int .i64 j.dl, .int .i64 j.bud, .int .i64 j.act, .int .i64 j.val, .int .i64 j.cln, .bool j.hard]] W fun e w' => e = .returned (.int .i64 (Job.work j)) ∧ Below W.heap.size W w' :=
        fun W hW => work_any _ _ _ _ _ _ _ _ W hnm (hT5.below hW) hokk
      have HWORK : Aside0 _ := ⟨hwork⟩
      have HO5 : Aside0 _ := ⟨ho5⟩
      have HB5 : Aside0 _ := ⟨hb5⟩
      have hs5 := hb5.size
      clear hwork ho5 hT5 hTw hW j0 j1 j2 j3 j4 j5 j6 j7 hfb hb5
      generalize Job.work j = wv at HWORK HSET
      generalize List.getD _ k 0 = z5 at hc5
      go_region_law (go_simp; go_at_call 57; refine (HWORK.out W5.drew ((Below.refl _ _).drew)).mono ?_; rintro e w6 ⟨rfl, hb6⟩; have hf6 := (hb6.cell (p := ⟨gl + 1, 0, none⟩) (by show gl + 1 < W5.heap.size; omega)).trans hf5; have ho6 := own_drewBelow HO5.out hb6; have hc6 := own_int ho6 k hlt; have hz6 := ho6.frozenAt k; have HO6 : Aside0 _ := ⟨ho6⟩; have HB6 : Aside0 _ := ⟨hb6⟩; clear ho6 hb6)
      all_goals
        have hst := (HO6.out.stored k (.int .i64 wv)).1
        have hse := HSET.out
        rw [← HN.out] at hse
        rw [ints_set, hse] at hst
        have hgw : gl ≤ wr.heap.size := by omega
        have hbs := ((HB.out.trans (HB5.out.mono hgw)).trans (((Below.refl _ _).drew.trans HB6.out).mono (by show gl ≤ W5.heap.size; omega))).setCell (p := ⟨gl, k, none⟩) (Nat.le_refl _) (.int .i64 wv)
        have hfs := (grown_set w6 gl k (.int .i64 wv)).cell hf6 (by simp)
        have HST : Aside0 _ := ⟨hst⟩
        have HBS : Aside0 _ := ⟨hbs⟩
        have HFS : Aside0 _ := ⟨hfs⟩
        clear hst hse hbs hfs
        go_wp2
        go_roundw
        case rel => exact ⟨k + 1, by omega, by go_num, HST, HBS, HFS.out⟩
        case measure => simp [intOf]; omega
    · obtain rfl : k = n := by omega
      have ho := HO.out
      rw [Nat.sub_self, List.replicate_zero, List.append_nil, HN.out, List.take_of_length_le (Nat.le_refl _), ← HN.out] at ho
      have HOL : Aside0 _ := ⟨ho⟩
      have hmin : min (T : Int) 10000 = T := by omega
      clear HO ho hlt hk
      go_wp2
      go_loopw [11, 12, 13, 42] (fun x _ _ q wr2 => ∃ k2 : Nat, k2 ≤ T ∧ q = .int .i64 k2 ∧ Aside0 (wr2.ownsRow gl 3 1 (.slice (some ⟨gl, 0, none⟩) k k) k (ints (Rob.edfAt l Job.work k2).1)) ∧ Aside0 (Below gl w3 wr2) ∧ wr2.cell? ⟨gl + 1, 0, none⟩ = some (.slice (some ⟨gl, 0, none⟩) k k) ∧ ∃ A' c', x = .slice A' k2 c' ∧ Aside0 (wr2.ownsRow (gl + 2) 3 1 (.slice A' k2 c') k2 (ints (Rob.edfAt l Job.work k2).2))) (fun _ _ _ q _ => T - (intOf q).toNat)
      case atStart => exact ⟨0, by omega, rfl, HOL, HB, hfb, none, 0, rfl, ⟨World.ownsRow_nil _ _ _ _⟩⟩
      case round =>
        clear hfb HB HOL
        obtain ⟨k2, hk2, rfl, HO, HB, hfb, A', c', rfl, HT⟩ := hrel
        by_cases hlt : k2 < T
        · have hbw : Below W1.heap.size W1 wr := HB13.out.trans (HB.out.mono (by rw [HGL.out]; exact HB13.out.size))
          obtain ⟨W5, hW5⟩ : ∃ W5, W5 = wr.alloc (.cells #[.int .i64 k2] 3 (0, 0)) := ⟨_, rfl⟩
          have hb5 : Below wr.heap.size wr W5 := by rw [hW5]; exact below_alloc (Below.refl _ wr) _
          have htb : W5.cell? ⟨wr.heap.size, 0, none⟩ = some (.int .i64 k2) := by rw [hW5]; simp
          have hfblt : gl + 1 < wr.heap.size := World.block_lt_of_cell? _ _ hfb
          have hf5 := (hb5.cell (p := ⟨gl + 1, 0, none⟩) hfblt).trans hfb
          have hl5 := HCB.out W5 (below_then hbw hb5)
          have ho5 := own_below HO.out hb5
          have hgw : gl ≤ wr.heap.size := by omega
          have hord := own_below (HO3.out.kept (row := none) (w' := wr) (by
            have := HB.out
            rw [HGL.out] at this
            exact grown_of_below this none) (.inr (by simp [Value.ownBlock]))) hb5
          have hbl : ((Rob.byDl l).map fun i : Nat => (i : Int)).length = k := by
            rw [List.length_map, HN.out]
            unfold Rob.byDl
            rw [(isort_perm _ _).length_eq, List.length_range]
          have hbl2 : (Rob.byDl l).length = k := by rw [List.length_map] at hbl; exact hbl
          have hP : PCtx W5 w.heap.size wr.heap.size (gl + 1) gl A0 b0 o0 c0 l k2 (Rob.edfAt l Job.work k2).1 :=
            ⟨HR1.out.below (below_then hbw hb5), by rw [← HN.out]; exact hl5, htb, by rw [← HN.out]; exact hf5, fun i hi => own_int ho5 i (by rw [HN.out]; exact hi)⟩
          have hRI : RdInts W5 (some ⟨go, 0, none⟩) go 0 ((Rob.byDl l).map fun i : Nat => (i : Int)) :=
            ⟨by omega, fun _ => rfl, fun _ => own_size hord rfl, fun i hi => by rw [Nat.zero_add]; exact own_int hord i (by omega)⟩
          have hidx := idx2_any hP (some ⟨go, 0, none⟩) go 0 k (Rob.byDl l) (fun x hx => (Rob.byDl_mem l x).1 hx) hRI hbl2
          have HIDX : Aside0 _ := ⟨hidx⟩
          have HW5 := hide hW5
          have HB5 : Aside0 _ := ⟨hb5⟩
          have HO5 : Aside0 _ := ⟨ho5⟩
          have HORD : Aside0 _ := ⟨hord⟩
          have HBL := hide hbl2
          have hw5s := hb5.size
          have hE := Rob.edfAt_succ l Job.work k2
          have HE := hide hE
          obtain ⟨i0, hi0, hzz⟩ := Option.map_eq_some_iff.1 (show (Tryd.prog.info? 3).map (fun i => (i.zero, i.size, i.bytes)) = some (some (.int .i64 0), 1, 8) by kernel_rfl)
          simp only [Prod.mk.injEq] at hzz
          obtain ⟨hz0, hz1, hz2⟩ := hzz
          have HI : Aside0 _ := ⟨And.intro hi0 (And.intro hz0 (And.intro hz1 hz2))⟩
          clear hidx hW5 hb5 hord hP hRI hl5 htb hE ho5 hbl hbl2 hi0 hz0 hz1 hz2
          go_wp2_with fail
          rw [← HW5.out]
          go_at_call 100
          refine HIDX.out.mono ?_
          rintro e w6 ⟨hb6, ⟨q, hq, rfl, hfind⟩ | ⟨rfl, hfind⟩⟩
          · have hfp : Rob.pick l (Rob.edfAt l Job.work k2).1 k2 = some ((Rob.byDl l).getD q 0) := hfind
            obtain ⟨hil, hpk, -⟩ := Rob.pick_some hfp
            have hord6 := own_int (own_below HORD.out hb6) q hq
            have hge : ((Rob.byDl l).map fun i : Nat => (i : Int)).getD q 0 = (((Rob.byDl l).getD q 0 : Nat) : Int) := by
              have h1 : q < (Rob.byDl l).length := by rw [HBL.out]; exact hq
              simp [List.getD_eq_getElem?_getD, List.getElem?_eq_getElem h1]
            rw [hge] at hord6
            have hes : Rob.edfAt l Job.work (k2 + 1) = ((Rob.edfAt l Job.work k2).1.set ((Rob.byDl l).getD q 0) ((Rob.edfAt l Job.work k2).1.getD ((Rob.byDl l).getD q 0) 0 - 1), (Rob.edfAt l Job.work k2).2 ++ [(((Rob.byDl l).getD q 0 : Nat) : Int)]) := by
              rw [HE.out]
              unfold Rob.edfStep
              rw [hfp]
            simp only [Rob.pickP, Bool.and_eq_true, decide_eq_true_eq] at hpk
            have hei := (Rob.einv_at l Job.work k2).cnt _ hil
            generalize (Rob.byDl l).getD q 0 = i at hil hord6 hes hpk hei
            have hik : i < k := by rw [HN.out]; exact hil
            have hb56 := below_then HB5.out hb6
            have ho6 := own_below HO.out hb56
            have hc6 := own_int ho6 i hik
            have hz6 := ho6.frozenAt i
            have hst := (ho6.stored i (.int .i64 ((Rob.edfAt l Job.work k2).1.getD i 0 - 1))).1
            rw [ints_set] at hst
            have hwk : (Rob.jb l i).work ≤ 100000 := by
              have hO := Job.ok_of_good (HOKJ.out _ (Rob.jb_mem hil))
              have := hO.work_le
              have := hO.charge1
              omega
            have hv1 : (Rob.edfAt l Job.work k2).1.getD i 0 ≤ 100000 := by omega
            have hv0 := hpk.2
            have HES := hide hes
            generalize (Rob.edfAt l Job.work k2).1.getD i 0 = vi at hc6 hst HES hv0 hv1
            have hff := (hb56.cell (p := ⟨gl + 1, 0, none⟩) hfblt).trans hfb
            have hbb := HB.out.trans (hb56.mono hgw)
            have hTt := own_below HT.out hb56
            have hgo6 : go < w6.heap.size := own_size (own_below HORD.out hb6) rfl
            have hgogl : go ≠ gl := by omega
            have HST : Aside0 _ := ⟨hst⟩
            have HBB0 : Aside0 _ := ⟨hbb⟩
            have HTT : Aside0 _ := ⟨hTt⟩
            have HO6 : Aside0 _ := ⟨hord6⟩
            have hqz : (q : Int) < (k : Int) := by omega
            have hiz : (i : Int) < (k : Int) := by omega
            clear hes hfind hfp hge hpk hei ho6 hst hbb hTt hb56 hil hwk
            go_wp2_with fail
            go_region
            all_goals
              have hne0 : ob A' ≠ some gl := fun he => by have := own_ge HT.out (g := gl) (by rw [ob_slice]; exact he); omega
              have hne1 : ob A' ≠ some (gl + 1) := fun he => by have := own_ge HT.out (g := gl + 1) (by rw [ob_slice]; exact he); omega
              have hgs := grown_set w6 gl i (.int .i64 (vi - 1))
              have hof8 := HST.out.drew
              have ht8 := (HTT.out.kept hgs (.inr (by rw [ob_slice]; exact hne0))).drew
              have hff8 : (w6.setCell ⟨gl, i, none⟩ (.int .i64 (vi - 1))).drew.cell? ⟨gl + 1, 0, none⟩ = some (.slice (some ⟨gl, 0, none⟩) k k) := hgs.cell hff (by simp)
              have hor8 : (w6.setCell ⟨gl, i, none⟩ (.int .i64 (vi - 1))).drew.cell? ⟨go, q, none⟩ = some (.int .i64 i) := hgs.cell HO6.out (by simp; exact hgogl)
              have hbb8 := (HBB0.out.setCell (p := ⟨gl, i, none⟩) (Nat.le_refl _) (.int .i64 (vi - 1))).drew
              have hsz8 : (w6.setCell ⟨gl, i, none⟩ (.int .i64 (vi - 1))).drew.heap.size = w6.heap.size := by show (w6.setCell _ _).heap.size = _; simp [World.setCell]
              clear hgs hff hord6 hc6 hz6
              generalize (w6.setCell ⟨gl, i, none⟩ (.int .i64 (vi - 1))).drew = W8 at *
              have hgw8 : gl ≤ W8.heap.size := by have := hb6.size; omega
              have HOF : Aside0 _ := ⟨hof8⟩
              have HBB : Aside0 _ := ⟨hbb8⟩
              have HFF : Aside0 _ := ⟨hff8⟩
              have ho2 := ht8.alloc (.cells #[.int .i64 i] 3 (0, 0))
              have hs2 : gl + 2 ≤ (W8.alloc (.cells #[.int .i64 i] 3 (0, 0))).heap.size := Nat.le_trans (by have := hb6.size; omega) (size_alloc W8 _)
              clear hof8 hbb8 ht8 hsz8
              go_wp2_with (at_builtin; refine wpList_append_lies _ (by rfl) (.tmp 62) (.tmp 67) 25 (by rfl) (gl + 2) 3 i0 (.int .i64 0) 1 8 Tryd.underlying25 HI.out.1 HI.out.2.1 HI.out.2.2.1 HI.out.2.2.2 (by rfl) (by omega) (.slice A' k2 c') k2 (ints (Rob.edfAt l Job.work k2).2) (by rfl) ho2 ⟨W8.heap.size, 0, none⟩ 1 1 [.int .i64 i] (by rfl) (by rfl) (World.news_of_block (heap_alloc_new W8 _)) (cells1 i) (by omega) (by unfold maxLen; omega) (by omega) hs2 _ (by rfl) ?_; intro g2 cap2 w7 ho7 hg7 hat7 hlt7)
              rw [ob_slice] at hg7
              have hof7 := (HOF.out.alloc (.cells #[.int .i64 i] 3 (0, 0))).kept hg7 (.inr (Ne.symm hne0))
              have hb7 := (HBB.out.trans ((below_alloc (Below.refl _ W8) (.cells #[.int .i64 i] 3 (0, 0))).mono hgw8)).grown hg7 (Nat.le_trans hgw8 (size_alloc W8 _)) (fun j hj => by have := own_ge HT.out (g := j) (by rw [ob_slice]; exact hj); omega)
              have hff7 := hg7.cell (((below_alloc (Below.refl _ W8) (.cells #[.int .i64 i] 3 (0, 0))).cell (p := ⟨gl + 1, 0, none⟩) (World.block_lt_of_cell? _ _ HFF.out)).trans HFF.out) (Ne.symm hne1)
              go_roundw
              case rel => exact ⟨k2 + 1, by omega, by go_num, ⟨by rw [HES.out]; exact hof7⟩, ⟨hb7⟩, hff7, _, _, rfl, ⟨by rw [HES.out, ints_snoc]; exact ho7⟩⟩
              case measure => simp [intOf]; omega
          · have hes : Rob.edfAt l Job.work (k2 + 1) = ((Rob.edfAt l Job.work k2).1, (Rob.edfAt l Job.work k2).2 ++ [-1]) := by
              rw [HE.out]
              unfold Rob.edfStep Rob.pick
              rw [hfind]
            have HES := hide hes
            have hb56 := below_then HB5.out hb6
            have ho2 := (own_below HT.out hb56).alloc (.cells #[.int .i64 (-1)] 3 (0, 0))
            have hs2 : gl + 2 ≤ (w6.alloc (.cells #[.int .i64 (-1)] 3 (0, 0))).heap.size := Nat.le_trans (by omega) (Nat.le_trans hb56.size (size_alloc w6 _))
            have hof := own_below HO.out hb56
            have hff := (hb56.cell (p := ⟨gl + 1, 0, none⟩) hfblt).trans hfb
            have hbb := HB.out.trans (hb56.mono hgw)
            have HOF : Aside0 _ := ⟨hof⟩
            have HBB : Aside0 _ := ⟨hbb⟩
            have HFF : Aside0 _ := ⟨hff⟩
            clear hes hfind hof hbb hff hb56
            go_wp2_with (at_builtin; refine wpList_append_lies _ (by rfl) (.tmp 50) (.tmp 51) 25 (by rfl) (gl + 2) 3 i0 (.int .i64 0) 1 8 Tryd.underlying25 HI.out.1 HI.out.2.1 HI.out.2.2.1 HI.out.2.2.2 (by rfl) (by omega) (.slice A' k2 c') k2 (ints (Rob.edfAt l Job.work k2).2) (by rfl) ho2 ⟨w6.heap.size, 0, none⟩ 1 1 [.int .i64 (-1)] (by rfl) (by rfl) (World.news_of_block (heap_alloc_new w6 _)) (cells1 (-1)) (by omega) (by unfold maxLen; omega) (by omega) hs2 _ (by rfl) ?_; intro g2 cap2 w7 ho7 hg7 hat7 hlt7)
            have hgw6 : gl ≤ w6.heap.size := Nat.le_trans (by omega) hb6.size
            rw [ob_slice] at hg7
            have hne0 : ob A' ≠ some gl := fun he => by have := own_ge HT.out (g := gl) (by rw [ob_slice]; exact he); omega
            have hne1 : ob A' ≠ some (gl + 1) := fun he => by have := own_ge HT.out (g := gl + 1) (by rw [ob_slice]; exact he); omega
            have hof7 := (HOF.out.alloc (.cells #[.int .i64 (-1)] 3 (0, 0))).kept hg7 (.inr (Ne.symm hne0))
            have hb7 := (HBB.out.trans ((below_alloc (Below.refl _ w6) (.cells #[.int .i64 (-1)] 3 (0, 0))).mono hgw6)).grown hg7 (Nat.le_trans hgw6 (size_alloc w6 _)) (fun j hj => by have := own_ge HT.out (g := j) (by rw [ob_slice]; exact hj); omega)
            have hff7 := hg7.cell (((below_alloc (Below.refl _ w6) (.cells #[.int .i64 (-1)] 3 (0, 0))).cell (p := ⟨gl + 1, 0, none⟩) (World.block_lt_of_cell? _ _ HFF.out)).trans HFF.out) (Ne.symm hne1)
            go_roundw
            case rel => exact ⟨k2 + 1, by omega, by go_num, ⟨by rw [HES.out]; exact hof7⟩, ⟨hb7⟩, hff7, _, _, rfl, ⟨by rw [HES.out, ints_snoc]; exact ho7⟩⟩
            case measure => simp [intOf]; omega
        · obtain rfl : k2 = T := by omega
          have hbf : Below w.heap.size w wr := below_then HB1.out (HB13.out.trans (HB.out.mono (by rw [HGL.out]; exact HB13.out.size)))
          have HBF : Aside0 _ := ⟨hbf⟩
          have hw3 : w.heap.size ≤ gl + 2 := by omega
          clear hbf
          go_wp2
          go_ret
          exact ⟨HBF.out, A', c', rfl, Joins.ownsRow_le HT.out hw3⟩
end
end Go.Proofs.YtjgegnjclmkpeaaDoor
set_option linter.unusedVariables false
set_option linter.unusedSimpArgs false
namespace Go.Proofs.YtjgegnjclmkpeaaDoor
open Go.RowKit Go.Sort Go.Proofs

section
variable {A0 : Option Addr} {b0 o0 c0 : Nat} {l : List Job}
set_option maxHeartbeats 4000000 in
set_option maxRecDepth 100000 in
theorem runCharge_any (w : World) (R : RdJobs w A0 b0 o0 l) (hT : Tabs w) (hok : allOk l = true) (hl20 : l.length < 20) (T : Nat) (hT1 : T ≤ 10000) :
    Calls Tryd.prog 58 #[.slice A0 l.length c0, .int .i64 T, .func (.func 59) #[] #[]] w fun e w' => Below w.heap.size w w' ∧ ∃ A' c', e = .returned (.slice A' T c') ∧ w'.ownsRow w.heap.size 3 1 (.slice A' T c') T (ints (Rob.edfAt l Job.charge T).2) := by
  have mixed : Tryd.prog.follows .mixedOrders = true := by kernel_rfl
  have hn := R.len
  obtain ⟨n, hn'⟩ : ∃ n, n = l.length := ⟨_, rfl⟩
  have HN := hide hn'
  have hokj : ∀ j ∈ l, j.ok = true := by
    have := hok
    unfold allOk allGood at this
    simp only [Bool.and_eq_true, List.all_eq_true] at this
    exact this.2
  have HOKJ := hide hokj
  obtain ⟨W1, hW1⟩ : ∃ W1, W1 = w.alloc (.cells #[.slice A0 n c0] 22 (0, 0)) := ⟨_, rfl⟩
  have hb1 : Below w.heap.size w W1 := by rw [hW1]; exact below_alloc (Below.refl _ w) _
  have hs1 : W1.heap.size = w.heap.size + 1 := by rw [hW1]; simp
  have hbox : W1.cell? ⟨w.heap.size, 0, none⟩ = some (.slice A0 n c0) := by rw [hW1]; simp
  have R1 := R.below hb1
  have T1 := hT.below hb1
  have hall := all_any A0 b0 o0 c0 l W1 R1 T1
  rw [hok, ← hn'] at hall
  have hbyd : ∀ W, Below W1.heap.size W1 W → Calls Tryd.prog 64 #[.slice A0 n c0] W fun e w' => Below W.heap.size W w' ∧ ∃ g, W.heap.size ≤ g ∧ e = .returned (.slice (some ⟨g, 0, none⟩) n n) ∧
      w'.ownsRow W.heap.size 3 1 (.slice (some ⟨g, 0, none⟩) n n) n (ints ((Rob.byDl l).map fun i : Nat => (i : Int))) := fun W hW => by
    have := byDl_any (c0 := c0) W (R1.below hW) hl20
    rw [← hn'] at this
    exact this
  have HALL : Aside0 _ := ⟨hall⟩
  have HBYD : Aside0 _ := ⟨hbyd⟩
  have HBOX : Aside0 _ := ⟨hbox⟩
  have HB1 : Aside0 _ := ⟨hb1⟩
  have HR1 : Aside0 _ := ⟨R1⟩
  have HT1 : Aside0 _ := ⟨T1⟩
  have HW1 := hide hW1
  have hmk := made_int n (by omega)
  rw [← hn'] at hn hl20 ⊢
  obtain ⟨lb, hlb⟩ : ∃ lb, lb = w.heap.size := ⟨_, rfl⟩
  have hcb : ∀ W, Below W1.heap.size W1 W → W.cell? ⟨w.heap.size, 0, none⟩ = some (.slice A0 n c0) := fun W hW => (hW.cell (p := ⟨w.heap.size, 0, none⟩) (by show w.heap.size < _; omega)).trans hbox
  have HCB : Aside0 _ := ⟨hcb⟩
  clear hn' hall hbyd hbox hb1 R1 T1 hW1 R hT hokj hok hcb
  go_enter Tryd.func58, Tryd.ntmps58
  go_wp2_with (first | (go_at_call 41; rw [← HW1.out]; refine HALL.out.mono ?_; rintro e w2 ⟨rfl, hb2⟩; have l2 := HCB.out w2 hb2) | (go_at_call 64; refine (HBYD.out w2 hb2).mono ?_; rintro e w3 ⟨hb3, go, hgo, rfl, ho3⟩; have l3 := HCB.out w3 (below_then hb2 hb3); have HO3 : Aside0 _ := ⟨ho3⟩; have hlb3 : w.heap.size < w3.heap.size := World.block_lt_of_cell? _ _ l3; clear ho3))
  have hb13 := below_then hb2 hb3
  have HB13 : Aside0 _ := ⟨hb13⟩
  have hgo3 := own_size HO3.out (g := go) rfl
  obtain ⟨gl, hgl⟩ : ∃ gl, gl = w3.heap.size := ⟨_, rfl⟩
  have ho4 : ((w3.alloc (Z1 n)).alloc (.cells #[.slice (some ⟨w3.heap.size, 0, none⟩) n n] 25 (0, 0))).ownsRow w3.heap.size 3 1 (.slice (some ⟨w3.heap.size, 0, none⟩) n n) n (ints (List.replicate n 0)) := (own_madeI w3 _ n (Nat.le_refl _) (by omega)).alloc _
  have hb4 : Below w3.heap.size w3 ((w3.alloc (Z1 n)).alloc (.cells #[.slice (some ⟨w3.heap.size, 0, none⟩) n n] 25 (0, 0))) := below_alloc (below_alloc (Below.refl _ w3) _) _
  have hf4 : ((w3.alloc (Z1 n)).alloc (.cells #[.slice (some ⟨w3.heap.size, 0, none⟩) n n] 25 (0, 0))).cell? ⟨w3.heap.size + 1, 0, none⟩ = some (.slice (some ⟨w3.heap.size, 0, none⟩) n n) := by
    have h1 := cell_of_heap (o := 0) (heap_alloc_new (w3.alloc (Z1 n)) (.cells #[.slice (some ⟨w3.heap.size, 0, none⟩) n n] 25 (0, 0)))
    rw [show (w3.alloc (Z1 n)).heap.size = w3.heap.size + 1 by simp] at h1
    exact h1
  change Code.wp _ _ _ _ ((w3.alloc (Z1 n)).alloc (.cells #[.slice (some ⟨w3.heap.size, 0, none⟩) n n] 25 (0, 0)))
  generalize ((w3.alloc (Z1 n)).alloc (.cells #[.slice (some ⟨w3.heap.size, 0, none⟩) n n] 25 (0, 0))) = W4 at *
  rw [← hgl] at ho4 hf4 hb4 hgo3 hlb3 ⊢
  have HGL := hide hgl
  have HO4 : Aside0 _ := ⟨ho4⟩
  have HB4 : Aside0 _ := ⟨hb4⟩
  clear ho4 hb4 hb13 hb2 hb3 l2 hmk hgl
  go_loopw [9, 10, 28] (fun _ _ q wr => ∃ k : Nat, k ≤ n ∧ q = .int .i64 k ∧ Aside0 (wr.ownsRow gl 3 1 (.slice (some ⟨gl, 0, none⟩) n n) n (ints ((l.take k).map Job.charge ++ List.replicate (n - k) 0))) ∧ Aside0 (Below gl w3 wr) ∧ wr.cell? ⟨gl + 1, 0, none⟩ = some (.slice (some ⟨gl, 0, none⟩) n n)) (fun _ _ q _ => n - (intOf q).toNat)
  case atStart => exact ⟨0, by omega, rfl, HO4, HB4, hf4⟩
  case round =>
    clear hf4
    obtain ⟨k, hk, rfl, HO, HB, hfb⟩ := hrel
    by_cases hlt : k < n
    · have hkl : k < l.length := by rw [← HN.out]; exact hlt
      have hbw : Below W1.heap.size W1 wr := HB13.out.trans (HB.out.mono (by rw [HGL.out]; exact HB13.out.size))
      have hRw := HR1.out.below hbw
      have hA := hRw.addr (by omega)
      subst hA
      obtain ⟨j0, j1, j2, j3, j4, j5, j6, j7⟩ := hRw.row k hkl
      have hnm := hRw.names _ (Rob.jb_mem hkl)
      have hokk := HOKJ.out _ (Rob.jb_mem hkl)
      have hTw := HT1.out.below hbw
      have hset := getD_map_need (l := l) Job.charge k hkl
      have HSET := hide hset
      obtain ⟨j, hj⟩ : ∃ j, j = Rob.jb l k := ⟨_, rfl⟩
      rw [← hj] at j0 j1 j2 j3 j4 j5 j6 j7 hnm hokk HSET
      clear hj hset hRw
      go_wp2_with fail
      obtain ⟨W5, hW, hb5, hk5, e0, e1, e2, e3, e4, e5, e6, e7⟩ := jbox wr j
      rw [hW]
      simp only [Nat.zero_add] at e0 e1 e2 e3 e4 e5 e6 e7
      have hfblt : gl + 1 < wr.heap.size := World.block_lt_of_cell? _ _ hfb
      have hf5 := (hb5.cell (p := ⟨gl + 1, 0, none⟩) hfblt).trans hfb
      have ho5 := own_below HO.out hb5
      have hc5 := own_int ho5 k hlt
      have hz5 := ho5.frozenAt k
      have hT5 := hTw.below hb5
      have hwork : ∀ W, Below W5.heap.size W5 W → Calls Tryd.prog 59 #[.agg #[.string j.name, .int .i64 j.rel, .int .i64 j.dl, .int .i64 j.bud, .int .i64 j.act, .int .i64 j.val, .int .i64 j.cln, .bool j.hard]] W fun e w' => e = .returned (.int .i64 (Job.charge j)) ∧ Below W.heap.size W w' :=
        fun W hW => charge_any _ _ _ _ _ _ _ _ W hnm (hT5.below hW) hokk
      have HWORK : Aside0 _ := ⟨hwork⟩
      have HO5 : Aside0 _ := ⟨ho5⟩
      have HB5 : Aside0 _ := ⟨hb5⟩
      have hs5 := hb5.size
      clear hwork ho5 hT5 hTw hW j0 j1 j2 j3 j4 j5 j6 j7 hfb hb5
      generalize Job.charge j = wv at HWORK HSET
      generalize List.getD _ k 0 = z5 at hc5
      go_region_law (go_simp; go_at_call 59; refine (HWORK.out W5.drew ((Below.refl _ _).drew)).mono ?_; rintro e w6 ⟨rfl, hb6⟩; have hf6 := (hb6.cell (p := ⟨gl + 1, 0, none⟩) (by show gl + 1 < W5.heap.size; omega)).trans hf5; have ho6 := own_drewBelow HO5.out hb6; have hc6 := own_int ho6 k hlt; have hz6 := ho6.frozenAt k; have HO6 : Aside0 _ := ⟨ho6⟩; have HB6 : Aside0 _ := ⟨hb6⟩; clear ho6 hb6)
      all_goals
        have hst := (HO6.out.stored k (.int .i64 wv)).1
        have hse := HSET.out
        rw [← HN.out] at hse
        rw [ints_set, hse] at hst
        have hgw : gl ≤ wr.heap.size := by omega
        have hbs := ((HB.out.trans (HB5.out.mono hgw)).trans (((Below.refl _ _).drew.trans HB6.out).mono (by show gl ≤ W5.heap.size; omega))).setCell (p := ⟨gl, k, none⟩) (Nat.le_refl _) (.int .i64 wv)
        have hfs := (grown_set w6 gl k (.int .i64 wv)).cell hf6 (by simp)
        have HST : Aside0 _ := ⟨hst⟩
        have HBS : Aside0 _ := ⟨hbs⟩
        have HFS : Aside0 _ := ⟨hfs⟩
        clear hst hse hbs hfs
        go_wp2
        go_roundw
        case rel => exact ⟨k + 1, by omega, by go_num, HST, HBS, HFS.out⟩
        case measure => simp [intOf]; omega
    · obtain rfl : k = n := by omega
      have ho := HO.out
      rw [Nat.sub_self, List.replicate_zero, List.append_nil, HN.out, List.take_of_length_le (Nat.le_refl _), ← HN.out] at ho
      have HOL : Aside0 _ := ⟨ho⟩
      have hmin : min (T : Int) 10000 = T := by omega
      clear HO ho hlt hk
      go_wp2
      go_loopw [11, 12, 13, 42] (fun x _ _ q wr2 => ∃ k2 : Nat, k2 ≤ T ∧ q = .int .i64 k2 ∧ Aside0 (wr2.ownsRow gl 3 1 (.slice (some ⟨gl, 0, none⟩) k k) k (ints (Rob.edfAt l Job.charge k2).1)) ∧ Aside0 (Below gl w3 wr2) ∧ wr2.cell? ⟨gl + 1, 0, none⟩ = some (.slice (some ⟨gl, 0, none⟩) k k) ∧ ∃ A' c', x = .slice A' k2 c' ∧ Aside0 (wr2.ownsRow (gl + 2) 3 1 (.slice A' k2 c') k2 (ints (Rob.edfAt l Job.charge k2).2))) (fun _ _ _ q _ => T - (intOf q).toNat)
      case atStart => exact ⟨0, by omega, rfl, HOL, HB, hfb, none, 0, rfl, ⟨World.ownsRow_nil _ _ _ _⟩⟩
      case round =>
        clear hfb HB HOL
        obtain ⟨k2, hk2, rfl, HO, HB, hfb, A', c', rfl, HT⟩ := hrel
        by_cases hlt : k2 < T
        · have hbw : Below W1.heap.size W1 wr := HB13.out.trans (HB.out.mono (by rw [HGL.out]; exact HB13.out.size))
          obtain ⟨W5, hW5⟩ : ∃ W5, W5 = wr.alloc (.cells #[.int .i64 k2] 3 (0, 0)) := ⟨_, rfl⟩
          have hb5 : Below wr.heap.size wr W5 := by rw [hW5]; exact below_alloc (Below.refl _ wr) _
          have htb : W5.cell? ⟨wr.heap.size, 0, none⟩ = some (.int .i64 k2) := by rw [hW5]; simp
          have hfblt : gl + 1 < wr.heap.size := World.block_lt_of_cell? _ _ hfb
          have hf5 := (hb5.cell (p := ⟨gl + 1, 0, none⟩) hfblt).trans hfb
          have hl5 := HCB.out W5 (below_then hbw hb5)
          have ho5 := own_below HO.out hb5
          have hgw : gl ≤ wr.heap.size := by omega
          have hord := own_below (HO3.out.kept (row := none) (w' := wr) (by
            have := HB.out
            rw [HGL.out] at this
            exact grown_of_below this none) (.inr (by simp [Value.ownBlock]))) hb5
          have hbl : ((Rob.byDl l).map fun i : Nat => (i : Int)).length = k := by
            rw [List.length_map, HN.out]
            unfold Rob.byDl
            rw [(isort_perm _ _).length_eq, List.length_range]
          have hbl2 : (Rob.byDl l).length = k := by rw [List.length_map] at hbl; exact hbl
          have hP : PCtx W5 w.heap.size wr.heap.size (gl + 1) gl A0 b0 o0 c0 l k2 (Rob.edfAt l Job.charge k2).1 :=
            ⟨HR1.out.below (below_then hbw hb5), by rw [← HN.out]; exact hl5, htb, by rw [← HN.out]; exact hf5, fun i hi => own_int ho5 i (by rw [HN.out]; exact hi)⟩
          have hRI : RdInts W5 (some ⟨go, 0, none⟩) go 0 ((Rob.byDl l).map fun i : Nat => (i : Int)) :=
            ⟨by omega, fun _ => rfl, fun _ => own_size hord rfl, fun i hi => by rw [Nat.zero_add]; exact own_int hord i (by omega)⟩
          have hidx := idx2_any hP (some ⟨go, 0, none⟩) go 0 k (Rob.byDl l) (fun x hx => (Rob.byDl_mem l x).1 hx) hRI hbl2
          have HIDX : Aside0 _ := ⟨hidx⟩
          have HW5 := hide hW5
          have HB5 : Aside0 _ := ⟨hb5⟩
          have HO5 : Aside0 _ := ⟨ho5⟩
          have HORD : Aside0 _ := ⟨hord⟩
          have HBL := hide hbl2
          have hw5s := hb5.size
          have hE := Rob.edfAt_succ l Job.charge k2
          have HE := hide hE
          obtain ⟨i0, hi0, hzz⟩ := Option.map_eq_some_iff.1 (show (Tryd.prog.info? 3).map (fun i => (i.zero, i.size, i.bytes)) = some (some (.int .i64 0), 1, 8) by kernel_rfl)
          simp only [Prod.mk.injEq] at hzz
          obtain ⟨hz0, hz1, hz2⟩ := hzz
          have HI : Aside0 _ := ⟨And.intro hi0 (And.intro hz0 (And.intro hz1 hz2))⟩
          clear hidx hW5 hb5 hord hP hRI hl5 htb hE ho5 hbl hbl2 hi0 hz0 hz1 hz2
          go_wp2_with fail
          rw [← HW5.out]
          go_at_call 100
          refine HIDX.out.mono ?_
          rintro e w6 ⟨hb6, ⟨q, hq, rfl, hfind⟩ | ⟨rfl, hfind⟩⟩
          · have hfp : Rob.pick l (Rob.edfAt l Job.charge k2).1 k2 = some ((Rob.byDl l).getD q 0) := hfind
            obtain ⟨hil, hpk, -⟩ := Rob.pick_some hfp
            have hord6 := own_int (own_below HORD.out hb6) q hq
            have hge : ((Rob.byDl l).map fun i : Nat => (i : Int)).getD q 0 = (((Rob.byDl l).getD q 0 : Nat) : Int) := by
              have h1 : q < (Rob.byDl l).length := by rw [HBL.out]; exact hq
              simp [List.getD_eq_getElem?_getD, List.getElem?_eq_getElem h1]
            rw [hge] at hord6
            have hes : Rob.edfAt l Job.charge (k2 + 1) = ((Rob.edfAt l Job.charge k2).1.set ((Rob.byDl l).getD q 0) ((Rob.edfAt l Job.charge k2).1.getD ((Rob.byDl l).getD q 0) 0 - 1), (Rob.edfAt l Job.charge k2).2 ++ [(((Rob.byDl l).getD q 0 : Nat) : Int)]) := by
              rw [HE.out]
              unfold Rob.edfStep
              rw [hfp]
            simp only [Rob.pickP, Bool.and_eq_true, decide_eq_true_eq] at hpk
            have hei := (Rob.einv_at l Job.charge k2).cnt _ hil
            generalize (Rob.byDl l).getD q 0 = i at hil hord6 hes hpk hei
            have hik : i < k := by rw [HN.out]; exact hil
            have hb56 := below_then HB5.out hb6
            have ho6 := own_below HO.out hb56
            have hc6 := own_int ho6 i hik
            have hz6 := ho6.frozenAt i
            have hst := (ho6.stored i (.int .i64 ((Rob.edfAt l Job.charge k2).1.getD i 0 - 1))).1
            rw [ints_set] at hst
            have hwk : (Rob.jb l i).charge ≤ 100000 := by
              have hO := Job.ok_of_good (HOKJ.out _ (Rob.jb_mem hil))
              have := hO.charge1
              omega
            have hv1 : (Rob.edfAt l Job.charge k2).1.getD i 0 ≤ 100000 := by omega
            have hv0 := hpk.2
            have HES := hide hes
            generalize (Rob.edfAt l Job.charge k2).1.getD i 0 = vi at hc6 hst HES hv0 hv1
            have hff := (hb56.cell (p := ⟨gl + 1, 0, none⟩) hfblt).trans hfb
            have hbb := HB.out.trans (hb56.mono hgw)
            have hTt := own_below HT.out hb56
            have hgo6 : go < w6.heap.size := own_size (own_below HORD.out hb6) rfl
            have hgogl : go ≠ gl := by omega
            have HST : Aside0 _ := ⟨hst⟩
            have HBB0 : Aside0 _ := ⟨hbb⟩
            have HTT : Aside0 _ := ⟨hTt⟩
            have HO6 : Aside0 _ := ⟨hord6⟩
            have hqz : (q : Int) < (k : Int) := by omega
            have hiz : (i : Int) < (k : Int) := by omega
            clear hes hfind hfp hge hpk hei ho6 hst hbb hTt hb56 hil hwk
            go_wp2_with fail
            go_region
            all_goals
              have hne0 : ob A' ≠ some gl := fun he => by have := own_ge HT.out (g := gl) (by rw [ob_slice]; exact he); omega
              have hne1 : ob A' ≠ some (gl + 1) := fun he => by have := own_ge HT.out (g := gl + 1) (by rw [ob_slice]; exact he); omega
              have hgs := grown_set w6 gl i (.int .i64 (vi - 1))
              have hof8 := HST.out.drew
              have ht8 := (HTT.out.kept hgs (.inr (by rw [ob_slice]; exact hne0))).drew
              have hff8 : (w6.setCell ⟨gl, i, none⟩ (.int .i64 (vi - 1))).drew.cell? ⟨gl + 1, 0, none⟩ = some (.slice (some ⟨gl, 0, none⟩) k k) := hgs.cell hff (by simp)
              have hor8 : (w6.setCell ⟨gl, i, none⟩ (.int .i64 (vi - 1))).drew.cell? ⟨go, q, none⟩ = some (.int .i64 i) := hgs.cell HO6.out (by simp; exact hgogl)
              have hbb8 := (HBB0.out.setCell (p := ⟨gl, i, none⟩) (Nat.le_refl _) (.int .i64 (vi - 1))).drew
              have hsz8 : (w6.setCell ⟨gl, i, none⟩ (.int .i64 (vi - 1))).drew.heap.size = w6.heap.size := by show (w6.setCell _ _).heap.size = _; simp [World.setCell]
              clear hgs hff hord6 hc6 hz6
              generalize (w6.setCell ⟨gl, i, none⟩ (.int .i64 (vi - 1))).drew = W8 at *
              have hgw8 : gl ≤ W8.heap.size := by have := hb6.size; omega
              have HOF : Aside0 _ := ⟨hof8⟩
              have HBB : Aside0 _ := ⟨hbb8⟩
              have HFF : Aside0 _ := ⟨hff8⟩
              have ho2 := ht8.alloc (.cells #[.int .i64 i] 3 (0, 0))
              have hs2 : gl + 2 ≤ (W8.alloc (.cells #[.int .i64 i] 3 (0, 0))).heap.size := Nat.le_trans (by have := hb6.size; omega) (size_alloc W8 _)
              clear hof8 hbb8 ht8 hsz8
              go_wp2_with (at_builtin; refine wpList_append_lies _ (by rfl) (.tmp 62) (.tmp 67) 25 (by rfl) (gl + 2) 3 i0 (.int .i64 0) 1 8 Tryd.underlying25 HI.out.1 HI.out.2.1 HI.out.2.2.1 HI.out.2.2.2 (by rfl) (by omega) (.slice A' k2 c') k2 (ints (Rob.edfAt l Job.charge k2).2) (by rfl) ho2 ⟨W8.heap.size, 0, none⟩ 1 1 [.int .i64 i] (by rfl) (by rfl) (World.news_of_block (heap_alloc_new W8 _)) (cells1 i) (by omega) (by unfold maxLen; omega) (by omega) hs2 _ (by rfl) ?_; intro g2 cap2 w7 ho7 hg7 hat7 hlt7)
              rw [ob_slice] at hg7
              have hof7 := (HOF.out.alloc (.cells #[.int .i64 i] 3 (0, 0))).kept hg7 (.inr (Ne.symm hne0))
              have hb7 := (HBB.out.trans ((below_alloc (Below.refl _ W8) (.cells #[.int .i64 i] 3 (0, 0))).mono hgw8)).grown hg7 (Nat.le_trans hgw8 (size_alloc W8 _)) (fun j hj => by have := own_ge HT.out (g := j) (by rw [ob_slice]; exact hj); omega)
              have hff7 := hg7.cell (((below_alloc (Below.refl _ W8) (.cells #[.int .i64 i] 3 (0, 0))).cell (p := ⟨gl + 1, 0, none⟩) (World.block_lt_of_cell? _ _ HFF.out)).trans HFF.out) (Ne.symm hne1)
              go_roundw
              case rel => exact ⟨k2 + 1, by omega, by go_num, ⟨by rw [HES.out]; exact hof7⟩, ⟨hb7⟩, hff7, _, _, rfl, ⟨by rw [HES.out, ints_snoc]; exact ho7⟩⟩
              case measure => simp [intOf]; omega
          · have hes : Rob.edfAt l Job.charge (k2 + 1) = ((Rob.edfAt l Job.charge k2).1, (Rob.edfAt l Job.charge k2).2 ++ [-1]) := by
              rw [HE.out]
              unfold Rob.edfStep Rob.pick
              rw [hfind]
            have HES := hide hes
            have hb56 := below_then HB5.out hb6
            have ho2 := (own_below HT.out hb56).alloc (.cells #[.int .i64 (-1)] 3 (0, 0))
            have hs2 : gl + 2 ≤ (w6.alloc (.cells #[.int .i64 (-1)] 3 (0, 0))).heap.size := Nat.le_trans (by omega) (Nat.le_trans hb56.size (size_alloc w6 _))
            have hof := own_below HO.out hb56
            have hff := (hb56.cell (p := ⟨gl + 1, 0, none⟩) hfblt).trans hfb
            have hbb := HB.out.trans (hb56.mono hgw)
            have HOF : Aside0 _ := ⟨hof⟩
            have HBB : Aside0 _ := ⟨hbb⟩
            have HFF : Aside0 _ := ⟨hff⟩
            clear hes hfind hof hbb hff hb56
            go_wp2_with (at_builtin; refine wpList_append_lies _ (by rfl) (.tmp 50) (.tmp 51) 25 (by rfl) (gl + 2) 3 i0 (.int .i64 0) 1 8 Tryd.underlying25 HI.out.1 HI.out.2.1 HI.out.2.2.1 HI.out.2.2.2 (by rfl) (by omega) (.slice A' k2 c') k2 (ints (Rob.edfAt l Job.charge k2).2) (by rfl) ho2 ⟨w6.heap.size, 0, none⟩ 1 1 [.int .i64 (-1)] (by rfl) (by rfl) (World.news_of_block (heap_alloc_new w6 _)) (cells1 (-1)) (by omega) (by unfold maxLen; omega) (by omega) hs2 _ (by rfl) ?_; intro g2 cap2 w7 ho7 hg7 hat7 hlt7)
            have hgw6 : gl ≤ w6.heap.size := Nat.le_trans (by omega) hb6.size
            rw [ob_slice] at hg7
            have hne0 : ob A' ≠ some gl := fun he => by have := own_ge HT.out (g := gl) (by rw [ob_slice]; exact he); omega
            have hne1 : ob A' ≠ some (gl + 1) := fun he => by have := own_ge HT.out (g := gl + 1) (by rw [ob_slice]; exact he); omega
            have hof7 := (HOF.out.alloc (.cells #[.int .i64 (-1)] 3 (0, 0))).kept hg7 (.inr (Ne.symm hne0))
            have hb7 := (HBB.out.trans ((below_alloc (Below.refl _ w6) (.cells #[.int .i64 (-1)] 3 (0, 0))).mono hgw6)).grown hg7 (Nat.le_trans hgw6 (size_alloc w6 _)) (fun j hj => by have := own_ge HT.out (g := j) (by rw [ob_slice]; exact hj); omega)
            have hff7 := hg7.cell (((below_alloc (Below.refl _ w6) (.cells #[.int .i64 (-1)] 3 (0, 0))).cell (p := ⟨gl + 1, 0, none⟩) (World.block_lt_of_cell? _ _ HFF.out)).trans HFF.out) (Ne.symm hne1)
            go_roundw
            case rel => exact ⟨k2 + 1, by omega, by go_num, ⟨by rw [HES.out]; exact hof7⟩, ⟨hb7⟩, hff7, _, _, rfl, ⟨by rw [HES.out, ints_snoc]; exact ho7⟩⟩
            case measure => simp [intOf]; omega
        · obtain rfl : k2 = T := by omega
          have hbf : Below w.heap.size w wr := below_then HB1.out (HB13.out.trans (HB.out.mono (by rw [HGL.out]; exact HB13.out.size)))
          have HBF : Aside0 _ := ⟨hbf⟩
          have hw3 : w.heap.size ≤ gl + 2 := by omega
          clear hbf
          go_wp2
          go_ret
          exact ⟨HBF.out, A', c', rfl, Joins.ownsRow_le HT.out hw3⟩
end
end Go.Proofs.YtjgegnjclmkpeaaDoor
set_option linter.unusedVariables false
set_option linter.unusedSimpArgs false
namespace Go.Proofs.YtjgegnjclmkpeaaDoor
open Go.RowKit Go.Sort Go.Proofs
theorem slice_to (b E c d : Nat) (hd : d ≤ c) (hc : c ≤ 9223372036854775807) (h0 : 0 < d) (w : World) :
    (Instr.slice 25 (.slice (some ⟨b, 0, none⟩) E c) none (some (.int .i64 d)) none).run Tryd.prog w = .ok (.slice (some ⟨b, 0, none⟩) d c) w := by
  have u := run_underlying (P := Tryd.prog) Tryd.underlying25 w
  have hw : IntKind.i64.wrap (d : Int) = d := by rw [IntKind.wrap_i64]; omega
  have n1 : ¬ (d : Int) < 0 := by omega
  have n2 : ¬ (c : Int) < (d : Int) := by omega
  simp [Instr.slice, Instr.sliceBounds, u, hw, n1, n2, go_sem, Addr.add]
  intro hcd
  omega
end Go.Proofs.YtjgegnjclmkpeaaDoor
set_option linter.unusedVariables false
set_option linter.unusedSimpArgs false
namespace Go.Proofs.YtjgegnjclmkpeaaDoor
open Go.RowKit Go.Sort Go.Proofs

section
variable {A0 : Option Addr} {b0 o0 c0 : Nat} {l : List Job}
theorem edfRun_any (w : World) (R : RdJobs w A0 b0 o0 l) (hT : Tabs w) (hok : allOk l = true) (hl20 : l.length < 20) (T : Nat) (hT1 : T ≤ 10000) :
    Calls Tryd.prog 23 #[.slice A0 l.length c0, .int .i64 T] w fun e w' => Below w.heap.size w w' ∧ ∃ A' c', e = .returned (.slice A' T c') ∧ w'.ownsRow w.heap.size 3 1 (.slice A' T c') T (ints (Rob.edfAt l Job.work T).2) := by
  have hC : Aside0 _ := ⟨runWork_any (c0 := c0) w R hT hok hl20 T hT1⟩
  clear R hT hok hl20
  generalize l.length = n at *
  go_enter Tryd.func23, Tryd.ntmps23
  go_wp2_with (go_at_call 58; refine hC.out.mono ?_; rintro e w1 ⟨hb1, A', c', rfl, ho⟩)
  go_ret
  exact ⟨hb1, A', c', rfl, ho⟩
set_option maxHeartbeats 4000000 in
set_option maxRecDepth 100000 in
theorem meets_any (w : World) (R : RdJobs w A0 b0 o0 l) (hT : Tabs w) (hok : allOk l = true) (hl20 : l.length < 20) :
    Calls Tryd.prog 21 #[.slice A0 l.length c0] w fun e w' => Below w.heap.size w w' ∧ ∃ r : Bool, e = .returned (.bool r) ∧ (r = true → Rob.meetsAll l) := by
  have mixed : Tryd.prog.follows .mixedOrders = true := by kernel_rfl
  have hn := R.len
  have hokj : ∀ j ∈ l, j.ok = true := by
    have := hok
    unfold allOk allGood at this
    simp only [Bool.and_eq_true, List.all_eq_true] at this
    exact this.2
  have hE0 := endOf_nonneg l
  have hE1 : endOf l ≤ 10000 := endOf_le (by omega) (fun j hj => (Job.ok_of_good (hokj j hj)).dl1)
  have hEd : ∀ j ∈ l, j.dl ≤ endOf l := fun j hj => endOf_ge hj
  obtain ⟨E, hEE⟩ : ∃ E : Nat, endOf l = E := ⟨(endOf l).toNat, by omega⟩
  have hall := all_any A0 b0 o0 c0 l w R hT
  rw [hok] at hall
  have hend : ∀ W, Below w.heap.size w W → Calls Tryd.prog 24 #[.slice A0 l.length c0] W fun e w' => e = .returned (.int .i64 E) ∧ Below W.heap.size W w' := fun W hW => by
    have := end_any A0 b0 o0 c0 l W (R.below hW) (hT.below hW) hok
    rw [hEE] at this
    exact this
  have hrun : ∀ W, Below w.heap.size w W → _ := fun W hW => runCharge_any (c0 := c0) W (R.below hW) (hT.below hW) hok hl20 E (by omega)
  have hmeet : Rob.meetsAll l ↔ ∀ i, i < l.length → (Rob.jb l i).charge ≤ ((((Rob.edfAt l Job.charge E).2.take (Rob.jb l i).dl.toNat).count (i : Int) : Nat) : Int) := by
    unfold Rob.meetsAll; rw [hEE, Int.toNat_natCast]
  obtain ⟨t, ht⟩ : ∃ t, t = (Rob.edfAt l Job.charge E).2 := ⟨_, rfl⟩
  have htl : t.length = E := by rw [ht]; exact (Rob.einv_at l Job.charge E).tlen
  rw [hEE] at hEd hE1
  rw [← ht] at hrun hmeet
  obtain ⟨n, hn'⟩ : ∃ n, n = l.length := ⟨_, rfl⟩
  have HN := hide hn'
  have HALL : Aside0 _ := ⟨hall⟩
  have HEND : Aside0 _ := ⟨hend⟩
  have HRUN : Aside0 _ := ⟨hrun⟩
  have HMEET := hide hmeet
  have HR : Aside0 _ := ⟨R⟩
  have HT : Aside0 _ := ⟨hT⟩
  have HOKJ := hide hokj
  have HED := hide hEd
  have HTL := hide htl
  rw [← hn'] at hn hl20 HALL HEND HRUN ⊢
  clear hn' hall hend hrun hmeet R hT hok hokj hE0 hEE ht htl hEd
  go_enter Tryd.func21, Tryd.ntmps21
  go_wp2_with (first | (go_at_call 41; refine HALL.out.mono ?_; rintro e w1 ⟨rfl, hb1⟩) | (go_at_call 24; refine (HEND.out w1 hb1).mono ?_; rintro e w2 ⟨rfl, hb2⟩) | (go_at_call 58; refine (HRUN.out w2 (below_then hb1 hb2)).mono ?_; rintro e w3 ⟨hb3, A', c', rfl, ho3⟩; have HO3 : Aside0 _ := ⟨ho3⟩; have HB3 : Aside0 _ := ⟨below_then (below_then hb1 hb2) hb3⟩; clear ho3 hb3 hb1 hb2))
  obtain ⟨bt, hRI⟩ : ∃ bt, RdInts w3 A' bt 0 t := by
    have ho := HO3.out
    rw [← HTL.out] at ho
    exact rdi_own ho (by rw [HTL.out]; omega)
  have hcapE : E ≤ c' := by
    rcases HO3.out.2 with ⟨h0, hn0⟩ | ⟨g', cap', cur, hv, -, -, hle, -, -, -⟩
    · omega
    · simp only [Value.slice.injEq] at hv
      omega
  have hcap2 : c' ≤ 9223372036854775807 := by
    rcases HO3.out.2 with ⟨h0, hn0⟩ | ⟨g', cap', cur, hv, -, -, -, hmx, -, -⟩
    · simp only [Value.slice.injEq] at h0
      omega
    · simp only [Value.slice.injEq] at hv
      unfold maxLen at hmx
      omega
  have HRI : Aside0 _ := ⟨hRI⟩
  clear hRI
  go_loopw [4, 5, 15] (fun _ _ q wr => ∃ k : Nat, k ≤ n ∧ q = .int .i64 k ∧ Below w3.heap.size w3 wr ∧ Hid (∀ i, i < k → (Rob.jb l i).charge ≤ (((t.take (Rob.jb l i).dl.toNat).count (i : Int) : Nat) : Int))) (fun _ _ q _ => n - (intOf q).toNat)
  case atStart => exact ⟨0, by omega, rfl, Below.refl _ _, fun i hi => by omega⟩
  case round =>
    obtain ⟨k, hk, rfl, hb, HK⟩ := hrel
    by_cases hlt : k < n
    · have hkl : k < l.length := by rw [← HN.out]; exact hlt
      have hbw := below_then HB3.out hb
      have hRw := HR.out.below hbw
      have hAA := hRw.addr (by omega)
      subst hAA
      obtain ⟨j0, j1, j2, j3, j4, j5, j6, j7⟩ := hRw.row k hkl
      have hnm := hRw.names _ (Rob.jb_mem hkl)
      have hokk := HOKJ.out _ (Rob.jb_mem hkl)
      have hO := Job.ok_of_good hokk
      have hdlE := HED.out _ (Rob.jb_mem hkl)
      have hd0 : 0 < (Rob.jb l k).dl := by have := hO.rel0; have := hO.rel1; omega
      have hTw := HT.out.below hbw
      have hnext : (Rob.jb l k).charge ≤ (((t.take (Rob.jb l k).dl.toNat).count (k : Int) : Nat) : Int) → ∀ i, i < k + 1 → (Rob.jb l i).charge ≤ (((t.take (Rob.jb l i).dl.toNat).count (i : Int) : Nat) : Int) := fun h i hi => by
        by_cases e : i = k
        · subst e; exact h
        · exact HK.out i (by omega)
      have HNEXT := hide hnext
      obtain ⟨d, hd⟩ : ∃ d : Nat, (Rob.jb l k).dl = d := ⟨(Rob.jb l k).dl.toNat, by omega⟩
      have hat : A' = some ⟨bt, 0, none⟩ := HRI.out.addr (by rw [HTL.out]; omega)
      subst hat
      have hdE : d ≤ E := by omega
      have hdp : 0 < d := by omega
      have hRt : ∀ W, Below w3.heap.size w3 W → Calls Tryd.prog 20 #[.slice (some ⟨bt, 0, none⟩) d c', .int .i64 k] W fun e w' => e = .returned (.int .i64 (ranIn (t.take d) k)) ∧ W = w' := fun W hW => by
        have hr := HRI.out.below hW
        have hlen : (t.take d).length = d := by rw [List.length_take, HTL.out]; omega
        have := ran_any (some ⟨bt, 0, none⟩) bt 0 c' (t.take d) k W ⟨by omega, fun _ => rfl, fun h => hr.lt (by rw [HTL.out]; omega), fun i hi => by
          rw [hr.c i (by rw [HTL.out]; omega)]
          have : (t.take d).getD i 0 = t.getD i 0 := by
            simp only [List.getD_eq_getElem?_getD]; rw [List.getElem?_take_of_lt (by omega)]
          rw [this]⟩
        rw [hlen] at this
        exact this
      have HRT : Aside0 _ := ⟨hRt⟩
      rw [hd] at HNEXT j2
      rw [Int.toNat_natCast] at HNEXT
      obtain ⟨j, hj⟩ : ∃ j, j = Rob.jb l k := ⟨_, rfl⟩
      rw [← hj] at j0 j1 j3 j4 j5 j6 j7 hnm hokk hd HNEXT
      rw [← hd] at j2
      have HD := hide hd
      clear hj hO hnext hRt hRw hdlE hd
      go_wp2_with fail
      obtain ⟨W5, hW, hb5, hk5, e0, e1, e2, e3, e4, e5, e6, e7⟩ := jbox wr j
      rw [hW]
      simp only [Nat.zero_add] at e0 e1 e2 e3 e4 e5 e6 e7
      have hcs := bw_cells W5
      have hb35 := below_then hb hb5
      have hran := fun p : BW W5 => calls_bw_same p (HRT.out p.W (below_then hb35 p.h))
      have hT5 := hTw.below hb5
      have hch := fun p : BW W5 => calls_bw p (charge_any j.name j.rel j.dl j.bud j.act j.val j.cln j.hard p.W hnm (hT5.below p.h) hokk)
      have HRAN2 : Aside0 _ := ⟨hran⟩
      have HCH : Aside0 _ := ⟨hch⟩
      have hcj : j.charge = j.bud + j.cln := rfl
      rw [hcj] at HNEXT
      generalize j.bud + j.cln = cg at HCH HNEXT
      have hrn : ranIn (t.take d) k = (((t.take d).count (k : Int) : Nat) : Int) := rfl
      rw [← hrn] at HNEXT
      generalize ranIn (t.take d) k = rn at HRAN2 HNEXT
      have HB35 : Aside0 _ := ⟨hb35⟩
      clear hran hch hcj hrn hT5 hTw hW j0 j1 j2 j3 j4 j5 j6 j7 hnm hokk
      rw [HD.out] at e2 HCH
      have hslice := slice_to bt E c' d (by omega) hcap2 hdp
      by_cases hlt2 : rn < cg
      · have hdd : decide (rn < cg) = true := decide_eq_true hlt2
        refine wp_region_bw mixed (by kernel_rfl) ?_
        repeat (go_big_quiet_step (first | (go_at_call 20; exact HRAN2.out _) | (go_at_call 59; exact HCH.out _)))
        refine wpQuiet_nil ?_
        rintro w' ⟨p, rfl⟩
        go_wp2
        go_ret
        exact ⟨below_then HB3.out (below_then HB35.out p.h), false, rfl, fun h => by cases h⟩
      · have hdd : decide (rn < cg) = false := decide_eq_false hlt2
        refine wp_region_bw mixed (by kernel_rfl) ?_
        repeat (go_big_quiet_step (first | (go_at_call 20; exact HRAN2.out _) | (go_at_call 59; exact HCH.out _)))
        refine wpQuiet_nil ?_
        rintro w' ⟨p, rfl⟩
        go_wp2
        go_roundw
        case rel => exact ⟨k + 1, by omega, by go_num, below_then HB35.out p.h, HNEXT.out (by omega)⟩
        case measure => simp [intOf]; omega
    · have hfin : Rob.meetsAll l := HMEET.out.2 (fun i hi => HK.out i (by have := HN.out; omega))
      have HF := hide hfin
      clear hfin
      go_wp2
      go_ret
      exact ⟨below_then HB3.out hb, true, rfl, fun _ => HF.out⟩
end
end Go.Proofs.YtjgegnjclmkpeaaDoor
