/- The Dover runner: the walks of live, say, aborted. append(out, x) at a row of whole numbers that the call owns: one law, with what is always the same paid once. The Dover runner: the walks of lives, expire. The Dover runner: the walk of decide. The Dover runner: the walk of ring. The Dover runner: the walk of run (one tick). -/
import Derived.Test.YtjgegnjclmkpeaaDoorDovAt
import Derived.Test.YtjgegnjclmkpeaaDoorTraceGood
import Derived.Test.YtjgegnjclmkpeaaDoorSurdW
import Derived.Deep.DeepCutAuto
set_option linter.unusedVariables false
set_option linter.unusedSimpArgs false
namespace Go.Proofs.YtjgegnjclmkpeaaDoor
open Go.RowKit

section
variable {w0 w : World} {g : Nat} {p q : Int} {A0 : Option Addr} {b0 o0 c0 : Nat} {l : List Job} {v : DV} {t : Int} {s : DS}
theorem dlive_any (h : DAt w0 w g p q A0 b0 o0 c0 l v t s) (i : Nat) (hi : i < l.length) :
    Calls Tryd.prog 105 #[.pointer (some ⟨g, 0, none⟩), .int .i64 i] w fun e w' => e = .returned (.bool (Dov.live l s t i)) ∧ Below w.heap.size w w' := by
  have hn := h.jobs.len
  obtain ⟨-, -, h2, -, -, -, h6, -, h8⟩ := h.cells
  have h3 := (h.cfa i hi).1
  obtain ⟨hA, ⟨j0, j1, j2, j3, j4, j5, j6, j7⟩, hb, hnm⟩ := h.job i hi
  subst hA
  have hiz : (i : Int) < (l.length : Int) := by omega
  show Calls _ _ _ _ fun e w' => e = .returned (.bool (decide ((Rob.jb l i).rel ≤ t) && Dov.kindAt s i == 0)) ∧ Below w.heap.size w w'
  generalize Dov.kindAt s i = k at h3 ⊢
  generalize Rob.jb l i = j at *
  generalize l.length = n at *
  clear h
  by_cases hr : j.rel ≤ t
  · have hd := decide_eq_true hr
    rw [hd]
    go_enter Tryd.func105, Tryd.ntmps105
    go_wp2
    go_quiet (fail)
    go_wp2
    go_ret
    exact ⟨rfl, below_drewN (Below.refl _ w) _⟩
  · have hd := decide_eq_false hr
    rw [hd]
    go_enter Tryd.func105, Tryd.ntmps105
    go_wp2
    go_quiet (fail)
    go_wp2
    go_ret
    exact ⟨rfl, below_drewN (Below.refl _ w) _⟩
set_option maxHeartbeats 1000000 in
theorem dsay_any (h : DAt w0 w g p q A0 b0 o0 c0 l v t s) (i : Nat) (hi : i < l.length) (k d : Int) (ht0 : 0 ≤ t) (ht1 : t ≤ 100000) (hd0 : 0 ≤ d) (hd1 : d ≤ 1000) :
    Calls Tryd.prog 68 #[.pointer (some ⟨g, 0, none⟩), .int .i64 i, .int .i64 k, .int .i64 d] w fun e w' => e = .returned (.tuple #[]) ∧
      DAt w0 w' g p q A0 b0 o0 c0 l v t (Dov.say s i k (t + d)) ∧ w.grownBy w' (some v.bfa) := by
  have hn := h.jobs.len
  obtain ⟨-, -, -, -, -, -, h4, -, h7⟩ := h.cells
  obtain ⟨h3, h3'⟩ := h.cfa i hi
  have f3 := h.ofa.frozenAt (i * 2)
  have f3' := h.ofa.frozenAt (i * 2 + 1)
  have fin : DAt w0 ((w.setCell ⟨v.bfa, i * 2, none⟩ (.int .i64 k)).setCell ⟨v.bfa, i * 2 + 1, none⟩ (.int .i64 (t + d))).drew g p q A0 b0 o0 c0 l v t (Dov.say s i k (t + d)) ∧ w.grownBy ((w.setCell ⟨v.bfa, i * 2, none⟩ (.int .i64 k)).setCell ⟨v.bfa, i * 2 + 1, none⟩ (.int .i64 (t + d))).drew (some v.bfa) :=
    ⟨(h.set_fa i k (t + d)).below (Below.refl _ _).drew, grown_trans (grown_trans (grown_set w v.bfa (i * 2) (.int .i64 k)) (grown_set _ v.bfa (i * 2 + 1) (.int .i64 (t + d)))) (grown_of_below (Below.refl _ _).drew _)⟩
  have FIN : Aside0 _ := ⟨fin⟩
  clear fin h
  generalize Dov.kindAt s i = k0 at h3
  generalize (s.fa.getD i (0, 0)).2 = a0 at h3'
  generalize l.length = n at *
  go_enter Tryd.func68, Tryd.ntmps68
  go_wp2
  go_region
  all_goals go_end0
  all_goals exact ⟨rfl, FIN.out⟩
set_option maxHeartbeats 2000000 in
theorem dabo_any (h : DAt w0 w g p q A0 b0 o0 c0 l v t s) (i : Nat) (hi : i < l.length) :
    Calls Tryd.prog 107 #[.pointer (some ⟨g, 0, none⟩), .int .i64 i] w fun e w' => e = .returned (.bool (Dov.abo l s i)) ∧ Below w.heap.size w w' := by
  have hn := h.jobs.len
  have mixed : Tryd.prog.follows .mixedOrders = true := by kernel_rfl
  obtain ⟨-, -, h2, -, h4, -, -, -, -⟩ := h.cells
  have hr := h.cran i hi
  obtain ⟨hA, ⟨j0, j1, j2, j3, j4, j5, j6, j7⟩, hb, hnm⟩ := h.job i hi
  subst hA
  have hg := h.glt
  have hbr := h.ltran
  have hiz : (i : Int) < (l.length : Int) := by omega
  show Calls _ _ _ _ fun e w' => e = .returned (.bool (!(Rob.jb l i).runs && decide ((Rob.jb l i).bud ≤ Dov.ranAt s i))) ∧ Below w.heap.size w w'
  generalize Rob.jb l i = j at *
  generalize Dov.ranAt s i = r at *
  have HC : Aside0 (∀ p : BW w, Calls Tryd.prog 19 #[.agg #[.string j.name, .int .i64 j.rel, .int .i64 j.dl, .int .i64 j.bud, .int .i64 j.act, .int .i64 j.val, .int .i64 j.cln, .bool j.hard]] p.W fun e w'' => e = .returned (.bool j.runs) ∧ ∃ q : BW w, w'' = q.W) :=
    ⟨fun p => calls_bw p (runs_any _ _ _ _ _ _ _ _ _)⟩
  have hcs := bw_cells w
  clear h
  generalize l.length = n at *
  cases hru : j.runs with
  | true =>
    rw [hru] at HC
    clear hru
    go_enter Tryd.func107, Tryd.ntmps107
    go_wp2
    refine wp_region_bw mixed (by kernel_rfl) ?_
    repeat (go_big_quiet_step ((go_at_call 19; exact HC.out _)))
    refine wpQuiet_nil ?_
    rintro w' ⟨p, rfl⟩
    go_wp2
    go_ret
    exact ⟨rfl, p.h⟩
  | false =>
    rw [hru] at HC
    clear hru
    go_enter Tryd.func107, Tryd.ntmps107
    go_wp2
    refine wp_region_bw mixed (by kernel_rfl) ?_
    repeat (go_big_quiet_step ((go_at_call 19; exact HC.out _)))
    refine wpQuiet_nil ?_
    rintro w' ⟨p, rfl⟩
    go_wp2
    go_ret
    exact ⟨rfl, p.h⟩
end
end Go.Proofs.YtjgegnjclmkpeaaDoor
set_option linter.unusedVariables false
set_option linter.unusedSimpArgs false
namespace Go.Proofs.YtjgegnjclmkpeaaDoor
open Go.RowKit
theorem wpList_push {ops : Array Oper} {rest : List Oper} {o : Oper} {a : Act} {Q : Exit → Act → World → Prop} {w : World} (hgd : o.guard = none) (s x : Operand)
    (ho : o.op = .call { callee := .builtin .append, args := #[s, x], argTypes := #[25, 25] }) (base : Nat) (A : Option Addr) (n c : Nat) (xs : List Int) (y : Int) (hs : a.eval s = .slice A n c)
    (hown : w.ownsRow base 3 1 (.slice A n c) n (ints xs)) (H : Nat) (hH : w.heap.size = H) (hx : a.eval x = .slice (some ⟨H, 0, none⟩) 1 1) (hn : n ≤ 1000000000) (hbase : base ≤ w.heap.size)
    (h : ∀ g cap w', w'.ownsRow base 3 1 (.slice (some ⟨g, 0, none⟩) (n + 1) cap) (n + 1) (ints (xs ++ [y])) → w.grownBy w' (ob A) → (ob A = some g ∨ w.heap.size ≤ g) → wpList Tryd.prog ops Q rest (a.put o.dst (.slice (some ⟨g, 0, none⟩) (n + 1) cap)) w') :
    wpList Tryd.prog ops Q (o :: rest) a (w.alloc (.cells #[.int .i64 y] 3 (0, 0))) := by
  subst hH
  obtain ⟨i0, hi0, hzz⟩ := Option.map_eq_some_iff.1 (show (Tryd.prog.info? 3).map (fun i => (i.zero, i.size, i.bytes)) = some (some (.int .i64 0), 1, 8) by kernel_rfl)
  simp only [Prod.mk.injEq] at hzz
  obtain ⟨hz0, hz1, hz2⟩ := hzz
  refine wpList_append_lies _ hgd s x 25 ho base 3 i0 (.int .i64 0) 1 8 Tryd.underlying25 hi0 hz0 hz1 hz2 rfl (by omega) (.slice A n c) n (ints xs) hs (hown.alloc _) ⟨w.heap.size, 0, none⟩ 1 1 [.int .i64 y] hx rfl (World.news_of_block (heap_alloc_new w _)) (cells1 y) (by omega) (by unfold maxLen; omega) (by omega) (Nat.le_trans hbase (size_alloc w _)) _ rfl ?_
  intro g cap w' ho' hg hat hlt
  rw [ob_slice] at hg hat
  refine h g cap w' (by rw [ints_snoc]; exact ho') (grown_trans (grown_of_below (below_alloc (Below.refl _ w) _) _) hg) (hat.imp id fun e => ?_)
  rw [e]; exact size_alloc w _
/-- What was below stays. -/
theorem below_grown {B B' n c : Nat} {w0 w w' : World} {A : Option Addr} {e : TypeId} {sz : Nat} {xs : List Value} (hb : Below B w0 w) (ho : w.ownsRow B' e sz (.slice A n c) n xs) (hBB : B ≤ B') (hle : B ≤ w.heap.size) (hg : w.grownBy w' (ob A)) : Below B w0 w' :=
  hb.grown hg hle (fun j hj => by have := own_ge ho (g := j) (by rw [ob_slice]; exact hj); omega)
end Go.Proofs.YtjgegnjclmkpeaaDoor
set_option linter.unusedVariables false
set_option linter.unusedSimpArgs false
namespace Go.Proofs.YtjgegnjclmkpeaaDoor
open Go.RowKit

section
variable {w0 w : World} {g : Nat} {p q : Int} {A0 : Option Addr} {b0 o0 c0 : Nat} {l : List Job} {v : DV} {t : Int} {s : DS}
/-- Places as whole numbers. -/
def natI (r : List Nat) : List Int := r.map fun i : Nat => (i : Int)
theorem natI_len (r : List Nat) : (natI r).length = r.length := by simp [natI]
theorem natI_snoc (r : List Nat) (i : Nat) : natI (r ++ [i]) = natI r ++ [(i : Int)] := by simp [natI]
theorem natI_at (r : List Nat) (k : Nat) (hk : k < r.length) : (natI r).getD k 0 = ((r.getD k 0 : Nat) : Int) := by
  simp [natI, List.getD_eq_getElem?_getD, List.getElem?_eq_getElem hk]
theorem byDl_len (l : List Job) : (Rob.byDl l).length = l.length := by
  unfold Rob.byDl; rw [(isort_perm _ _).length_eq, List.length_range]
set_option maxHeartbeats 2000000 in
set_option maxRecDepth 100000 in
theorem dlives_any (h : DAt w0 w g p q A0 b0 o0 c0 l v t s) (hl20 : l.length < 20) :
    Calls Tryd.prog 106 #[.pointer (some ⟨g, 0, none⟩)] w fun e w' => Below w.heap.size w w' ∧ ∃ A c, e = .returned (.slice A (Dov.lives l s t).length c) ∧
      w'.ownsRow w.heap.size 3 1 (.slice A (Dov.lives l s t).length c) (Dov.lives l s t).length (ints (natI (Dov.lives l s t))) := by
  have hn := h.jobs.len
  obtain ⟨-, -, -, h3, -, -, -, -, -⟩ := h.cells
  obtain ⟨n, hn'⟩ : ∃ n, n = l.length := ⟨_, rfl⟩
  have HN := hide hn'
  have HH : Aside0 _ := ⟨h⟩
  have hgl := h.glt
  have hord : ∀ W, Below w.heap.size w W → ∀ k, k < l.length → W.cell? ⟨v.bor, k, none⟩ = some (.int .i64 (((Rob.byDl l).getD k 0 : Nat) : Int)) := fun W hW k hk => by
    have := (h.below hW).cor k hk
    unfold ordI at this
    rw [← natI_at (Rob.byDl l) k (by rw [byDl_len]; exact hk)]
    exact this
  have HORD : Aside0 _ := ⟨hord⟩
  have hlive : ∀ W, Below w.heap.size w W → ∀ i, i < l.length → Calls Tryd.prog 105 #[.pointer (some ⟨g, 0, none⟩), .int .i64 i] W fun e w' => e = .returned (.bool (Dov.live l s t i)) ∧ Below W.heap.size W w' := fun W hW i hi => dlive_any (h.below hW) i hi
  have HLIVE : Aside0 _ := ⟨hlive⟩
  rw [← hn'] at hn hl20 h3
  clear h hn' hord hlive
  have hlv : Dov.lives l s t = ((Rob.byDl l).take n).filter (Dov.live l s t) := by
    rw [List.take_of_length_le (by rw [byDl_len, HN.out]; exact Nat.le_refl _)]; rfl
  have HLV := hide hlv
  clear hlv
  generalize Dov.lives l s t = L at HLV ⊢
  go_enter Tryd.func106, Tryd.ntmps106
  go_wp2
  go_loopw [3, 5, 11] (fun x _ i wr => ∃ k : Nat, k ≤ n ∧ i = .int .i64 k ∧ Aside0 (Below w.heap.size w wr) ∧ ∃ (A : Option Addr) (c : Nat) (r : List Nat), r.length ≤ k ∧ x = .slice A r.length c ∧ Hid (r = ((Rob.byDl l).take k).filter (Dov.live l s t)) ∧ Aside0 (wr.ownsRow w.heap.size 3 1 (.slice A r.length c) r.length (ints (natI r)))) (fun _ _ i _ => n - (intOf i).toNat)
  case atStart => exact ⟨0, by omega, rfl, ⟨Below.refl _ _⟩, none, 0, [], Nat.le_refl _, rfl, rfl, ⟨World.ownsRow_nil _ _ _ _⟩⟩
  case round =>
    obtain ⟨k, hk, rfl, HB, A, c, r, hrl, rfl, HR, HO⟩ := hrel
    by_cases hlt : k < n
    · have hkl : k < l.length := by rw [← HN.out]; exact hlt
      have hc := HORD.out wr HB.out k hkl
      have hil : (Rob.byDl l).getD k 0 < l.length := (Rob.byDl_mem l _).1 (getD_mem (by rw [byDl_len]; exact hkl))
      have hstep : ((Rob.byDl l).take (k + 1)).filter (Dov.live l s t) = if Dov.live l s t ((Rob.byDl l).getD k 0) then r ++ [(Rob.byDl l).getD k 0] else r := by
        have hkb : k < (Rob.byDl l).length := by rw [byDl_len]; exact hkl
        rw [List.take_succ_eq_append_getElem hkb, List.filter_append, ← HR.out, List.getD_eq_getElem?_getD, List.getElem?_eq_getElem hkb, Option.getD_some]
        simp only [List.filter_cons, List.filter_nil]
        split
        · rfl
        · rw [List.append_nil]
      have HS := hide hstep
      have hlive := HLIVE.out wr HB.out _ hil
      clear hstep
      generalize (Rob.byDl l).getD k 0 = i at hc hil HS hlive
      have hkz : (k : Int) < (n : Int) := by omega
      cases hv : Dov.live l s t i with
      | false =>
        rw [hv] at HS hlive
        have HL : Aside0 _ := ⟨hlive⟩
        clear hv hlive
        go_wp2_with (go_at_call 105; refine HL.out.mono ?_; rintro e w1 ⟨rfl, hb1⟩)
        go_roundw
        case rel => exact ⟨k + 1, by omega, by go_num, ⟨below_then HB.out hb1⟩, A, c, r, by omega, rfl, by show _ = _; rw [HS.out]; rfl, ⟨own_below HO.out hb1⟩⟩
        case measure => simp [intOf]; omega
      | true =>
        rw [hv] at HS hlive
        have HL : Aside0 _ := ⟨hlive⟩
        clear hv hlive
        have hws := HB.out.size
        go_wp2_with (first | (go_at_call 105; refine HL.out.mono ?_; rintro e w1 ⟨rfl, hb1⟩; have hs1 := hb1.size) | (at_builtin; refine wpList_push (by rfl) (.tmp 18) (.tmp 20) (by rfl) w.heap.size A r.length c (natI r) i (by rfl) (own_below HO.out hb1) _ rfl (by rfl) (by omega) (by omega) ?_; intro g2 cap2 w2 ho2 hg2 hat2))
        have hb2 := below_grown (below_then HB.out hb1) (own_below HO.out hb1) (Nat.le_refl _) (by omega) hg2
        rw [← natI_snoc, show r.length + 1 = (r ++ [i]).length by simp] at ho2
        have HO2 : Aside0 _ := ⟨ho2⟩
        have HB2 : Aside0 _ := ⟨hb2⟩
        clear ho2 hb2 hg2 hat2 hb1
        rw [show r.length + 1 = (r ++ [i]).length by simp]
        go_wp2
        go_roundw
        case rel => exact ⟨k + 1, by omega, by go_num, HB2, _, _, r ++ [i], by simp; omega, rfl, by show _ = _; rw [HS.out]; rfl, HO2⟩
        case measure => simp [intOf]; omega
    · have hfin : r = L := by rw [HLV.out, HR.out, show k = n by omega]
      subst hfin
      go_wp2
      go_ret
      exact ⟨HB.out, A, c, rfl, HO.out⟩
/-- What a run's walks take of the jobs and of how often they ran. -/
structure DFine (l : List Job) (t : Int) (s : DS) : Prop where
  ok : ∀ j ∈ l, j.ok = true
  ran : ∀ i, i < l.length → 0 ≤ Dov.ranAt s i ∧ Dov.ranAt s i ≤ 10000
  t0 : 0 ≤ t
  t1 : t ≤ 10000
theorem DFine.of_ran {s' : DS} (h : DFine l t s) (e : s'.ran = s.ran) : DFine l t s' := ⟨h.ok, fun i hi => by have := h.ran i hi; unfold Dov.ranAt at *; rw [e]; exact this, h.t0, h.t1⟩
theorem DFine.job (h : DFine l t s) {i : Nat} (hi : i < l.length) : (Rob.jb l i).ok = true := h.ok _ (Rob.jb_mem hi)
set_option maxHeartbeats 2000000 in
theorem dexpire_any (h : DAt w0 w g p q A0 b0 o0 c0 l v t s) (ht0 : 0 ≤ t) (ht1 : t ≤ 10000) :
    Calls Tryd.prog 65 #[.pointer (some ⟨g, 0, none⟩)] w fun e w' => e = .returned (.tuple #[]) ∧ DAt w0 w' g p q A0 b0 o0 c0 l v t (Dov.expire l t s) := by
  have hn := h.jobs.len
  have mixed : Tryd.prog.follows .mixedOrders = true := by kernel_rfl
  obtain ⟨n, hn'⟩ : ∃ n, n = l.length := ⟨_, rfl⟩
  have HN := hide hn'
  obtain ⟨-, -, h0, -, -, -, -, -, -⟩ := h.cells
  rw [← hn'] at hn h0
  clear hn'
  have HH : Aside0 _ := ⟨h⟩
  clear h
  go_enter Tryd.func65, Tryd.ntmps65
  go_wp2
  clear h0
  go_loopw [2, 3, 9] (fun _ _ i wr => ∃ k : Nat, k ≤ n ∧ i = .int .i64 k ∧ ∃ sk : DS, Aside0 (DAt w0 wr g p q A0 b0 o0 c0 l v t sk) ∧ Hid (sk = (List.range k).foldl (Dov.exp1 l t) s)) (fun _ _ i _ => n - (intOf i).toNat)
  case atStart => exact ⟨0, by omega, rfl, s, HH, rfl⟩
  case round =>
    obtain ⟨k, hk, rfl, sk, HR, HS⟩ := hrel
    by_cases hlt : k < n
    · have hkl : k < l.length := by rw [← HN.out]; exact hlt
      have hR := HR.out
      obtain ⟨hA, ⟨j0, j1, j2, j3, j4, j5, j6, j7⟩, hb0, -⟩ := hR.job k hkl
      subst hA
      have hstep : (List.range (k + 1)).foldl (Dov.exp1 l t) s = Dov.exp1 l t sk k := by rw [foldl_range_succ, ← HS.out]
      have HS2 := hide hstep
      clear hstep HS
      obtain ⟨j, hj⟩ : ∃ j, j = Rob.jb l k := ⟨_, rfl⟩
      have HJ := hide hj
      rw [← hj] at j0 j1 j2 j3 j4 j5 j6 j7
      clear hj
      go_wp2_with fail
      obtain ⟨W1, hW, hb1, hk1, e0, e1, e2, e3, e4, e5, e6, e7⟩ := jbox wr j
      rw [hW]
      have hR1 := hR.below hb1
      clear hW j0 j1 j2 j3 j4 j5 j6 j7 hb0 hR
      have HR1 : Aside0 _ := ⟨hR1⟩
      have hlive := fun p' : BW W1 => calls_bw p' (dlive_any (hR1.below p'.h) k hkl)
      obtain ⟨-, -, -, -, -, -, -, -, d8⟩ := hR1.cells
      have hg1 := hR1.glt
      have hcs := bw_cells W1
      clear hb1 hR1 HR e0 e1 e3 e4 e5 e6 e7
      cases ho : Dov.live l sk t k with
      | false =>
        have hnext : Dov.exp1 l t sk k = sk := by
          unfold Dov.exp1
          rw [ho]; rfl
        have HNX := hide hnext
        rw [ho] at hlive
        have HOP : Aside0 _ := ⟨hlive⟩
        clear hlive ho hnext
        refine wp_region_bw mixed (by kernel_rfl) ?_
        repeat (go_big_quiet_step ((go_at_call 105; exact HOP.out _)))
        refine wpQuiet_nil ?_
        rintro w' ⟨p', rfl⟩
        go_wp2
        go_roundw
        case rel => exact ⟨k + 1, by omega, by go_num, sk, ⟨HR1.out.below p'.h⟩, by show _ = _; rw [HS2.out, HNX.out]⟩
        case measure => simp [intOf]; omega
      | true =>
        have hnext : Dov.exp1 l t sk k = if decide (j.dl ≤ t) then Dov.say sk k 5 t else sk := by
          unfold Dov.exp1
          rw [ho, ← HJ.out]; rfl
        have HNX := hide hnext
        rw [ho] at hlive
        have HOP : Aside0 _ := ⟨hlive⟩
        clear hlive ho hnext
        by_cases hv : j.dl ≤ t
        · have hvd : decide (j.dl ≤ t) = true := decide_eq_true hv
          refine wp_region_bw mixed (by kernel_rfl) ?_
          repeat (go_big_quiet_step ((go_at_call 105; exact HOP.out _)))
          refine wpQuiet_nil ?_
          rintro w' ⟨p', rfl⟩
          have hsay := dsay_any (HR1.out.below p'.h) k hkl 5 0 ht0 (by omega) (by omega) (by omega)
          rw [Int.add_zero] at hsay
          have HSAY : Aside0 _ := ⟨hsay⟩
          clear hsay
          go_wp2_with (go_at_call 68; refine HSAY.out.mono ?_; rintro e w3 ⟨rfl, hr3, hg3⟩)
          go_roundw
          case rel => exact ⟨k + 1, by omega, by go_num, _, ⟨hr3⟩, by show _ = _; rw [HS2.out, HNX.out, hvd]; rfl⟩
          case measure => simp [intOf]; omega
        · have hvd : decide (j.dl ≤ t) = false := decide_eq_false hv
          refine wp_region_bw mixed (by kernel_rfl) ?_
          repeat (go_big_quiet_step ((go_at_call 105; exact HOP.out _)))
          refine wpQuiet_nil ?_
          rintro w' ⟨p', rfl⟩
          go_wp2
          go_roundw
          case rel => exact ⟨k + 1, by omega, by go_num, sk, ⟨HR1.out.below p'.h⟩, by show _ = _; rw [HS2.out, HNX.out, hvd]; rfl⟩
          case measure => simp [intOf]; omega
    · have hfin : sk = Dov.expire l t s := by rw [HS.out, show k = n by omega, HN.out]; rfl
      have HF := hide hfin
      clear hfin
      go_wp2
      go_end0
      exact ⟨rfl, by rw [← HF.out]; exact HR.out⟩
end
end Go.Proofs.YtjgegnjclmkpeaaDoor
set_option linter.unusedVariables false
set_option linter.unusedSimpArgs false
namespace Go.Proofs.YtjgegnjclmkpeaaDoor
open Go.RowKit

section
variable {w0 w : World} {g : Nat} {p q : Int} {A0 : Option Addr} {b0 o0 c0 : Nat} {l : List Job} {v : DV} {t : Int} {s : DS}
/-- What a rule that may be is. -/
structure PQ (p q : Int) : Prop where
  p0 : 1 ≤ p
  p1 : p ≤ 1000000
  q0 : 1 ≤ q
  q1 : q ≤ 1000000
/-- The blocks that a run writes lie below B. -/
structure Low (B g : Nat) (v : DV) : Prop where
  g : g < B
  fa : v.bfa < B
  al : ∀ k, ob v.Aal = some k → k < B
set_option maxHeartbeats 2000000 in
set_option maxRecDepth 100000 in
theorem ddecide_any (h : DAt w0 w g p q A0 b0 o0 c0 l v t s) (hT : Tabs w0) (hr : PQ p q) (ht0 : 0 ≤ t) (ht1 : t ≤ 10000) (i : Nat) (hi : i < l.length) (hok : (Rob.jb l i).ok = true) (val : Int) (hv0 : 0 ≤ val) (hv1 : val ≤ 1000000000)
    (ah : List Nat) (hah : ∀ k ∈ ah, k < l.length) (hahl : ah.length ≤ 1000) (B : Nat) (hB : Low B g v) (A : Option Addr) (c : Nat) (ho : w.ownsRow B 3 1 (.slice A ah.length c) ah.length (ints (natI ah))) (hal : s.al.length ≤ 100000000) :
    Calls Tryd.prog 108 #[.pointer (some ⟨g, 0, none⟩), .int .i64 i, .slice A ah.length c, .int .i64 val] w fun e w' => e = .returned (.tuple #[]) ∧ ∃ v', DAt w0 w' g p q A0 b0 o0 c0 l v' t (Dov.dec l p q t s i ah val) := by
  have hn := h.jobs.len
  have mixed : Tryd.prog.follows .mixedOrders = true := by kernel_rfl
  obtain ⟨-, -, -, -, -, -, -, h7, -⟩ := h.cells
  have hf7 := h.free 7
  have hgl := h.glt
  obtain ⟨m, hm⟩ : ∃ m, m = s.al.length := ⟨_, rfl⟩
  have HM := hide hm
  have hoal := h.oal
  have hbase := h.base.size
  rw [← hm] at hoal h7 hal
  have HOAL : Aside0 _ := ⟨hoal⟩
  have HO : Aside0 _ := ⟨ho⟩
  have HH : Aside0 _ := ⟨h⟩
  have HHB : Aside0 _ := ⟨hB⟩
  have HAH := hide hah
  have HOKJ := hide hok
  clear h ho hoal hm hB hah hok
  go_enter Tryd.func108, Tryd.ntmps108
  go_wp2_with (at_builtin; refine wpList_push (by rfl) (.tmp 15) (.tmp 17) (by rfl) w0.heap.size v.Aal m v.cal s.al i (by rfl) HOAL.out _ rfl (by rfl) (by omega) hbase ?_; intro g2 cap2 w2 ho2 hg2 hat2; have hc7 := (HH.out.row_cells HOAL.out hg2 7).1.trans h7; have hz7 := (HH.out.row_cells HOAL.out hg2 7).2)
  have hP : DAt w0 (w2.setCell ⟨g, 7, none⟩ (.slice (some ⟨g2, 0, none⟩) (m + 1) cap2)) g p q A0 b0 o0 c0 l { v with Aal := some ⟨g2, 0, none⟩, cal := cap2 } t { s with al := s.al ++ [(i : Int)] } := by
    have := HH.out.push_al (x := (i : Int)) hg2 (by rw [← HM.out, ← ints_snoc]; exact ho2) hat2
    rw [← HM.out] at this
    exact this
  have hgs := grown_set w2 g 7 (.slice (some ⟨g2, 0, none⟩) (m + 1) cap2)
  have hnal : (Value.slice A ah.length c).ownBlock ≠ ob v.Aal ∨ ob v.Aal = none := by
    cases hk : ob v.Aal with
    | none => exact .inr rfl
    | some k =>
      left
      intro he
      have h1 := HHB.out.al k hk
      have h2 := own_ge HO.out he
      omega
  have hoA : (w2.setCell ⟨g, 7, none⟩ (.slice (some ⟨g2, 0, none⟩) (m + 1) cap2)).ownsRow B 3 1 (.slice A ah.length c) ah.length (ints (natI ah)) := by
    have h1 : w2.ownsRow B 3 1 (.slice A ah.length c) ah.length (ints (natI ah)) := HO.out.kept hg2 (by
      rcases hnal with e | e
      · exact .inr e
      · rw [e]; cases (Value.slice A ah.length c).ownBlock <;> simp)
    refine h1.kept hgs (.inr fun he => ?_)
    have h2 := own_ge h1 he
    have := HHB.out.g
    omega
  obtain ⟨v2, hv2⟩ : ∃ v2 : DV, v2 = { v with Aal := some ⟨g2, 0, none⟩, cal := cap2 } := ⟨_, rfl⟩
  obtain ⟨s2, hs2⟩ : ∃ s2 : DS, s2 = { s with al := s.al ++ [(i : Int)] } := ⟨_, rfl⟩
  have hdec : Dov.dec l p q t s i ah val = if Dov.above (Rob.jb l i).val (min val 1000000000) p q then Dov.shedAll t s2 ah else Dov.say s2 i 3 t := by rw [hs2]; rfl
  have hfa2 : v2.bfa < B := by rw [hv2]; exact HHB.out.fa
  rw [← hv2, ← hs2] at hP
  have HDEC := hide hdec
  have HP : Aside0 _ := ⟨hP⟩
  have HOA : Aside0 _ := ⟨hoA⟩
  have HFA2 := hide hfa2
  clear hdec hP hoA hnal hgs ho2 hg2 hat2 hc7 hz7 hv2 hs2 h7 hf7 hfa2
  generalize w2.setCell ⟨g, 7, none⟩ (.slice (some ⟨g2, 0, none⟩) (m + 1) cap2) = w3 at *
  obtain ⟨d0, d1, d2, -, -, -, -, -, -⟩ := HP.out.cells
  have hg3 := HP.out.glt
  obtain ⟨hA, ⟨j0, j1, j2, j3, j4, j5, j6, j7⟩, hb3, hnm⟩ := HP.out.job i hi
  subst hA
  have hiz : (i : Int) < (l.length : Int) := by omega
  have hcs := bw_cells w3
  have hO := Job.ok_of_good HOKJ.out
  have q1 := hO.val0
  have q2 := hO.val1
  have hmin : min val 1000000000 = val := by omega
  rw [hmin] at HDEC
  clear hO j0 j1 j2 j3 j4 j6 j7 hnm hmin
  generalize (Rob.jb l i).val = vi at *
  have HAB : Aside0 _ := ⟨fun p' : BW w3 => calls_bw p' (above_any vi val p q p'.W q1 (by omega) hv0 hv1 hr.p0 hr.p1 hr.q0 hr.q1)⟩
  have hmin : min val 1000000000 = val := by omega
  generalize Dov.above vi val p q = ab at *
  generalize hll : l.length = n at *
  have HLL := hide hll
  clear hll
  refine wp_region_bw mixed (by kernel_rfl) ?_
  repeat (go_big_quiet_step ((go_at_call 135; exact HAB.out _)))
  refine wpQuiet_nil ?_
  rintro w' ⟨p', rfl⟩
  have hP4 := HP.out.below p'.h
  have hoA4 := own_below HOA.out p'.h
  have HP4 : Aside0 _ := ⟨hP4⟩
  have HOA4 : Aside0 _ := ⟨hoA4⟩
  clear hP4 hoA4 hcs d0 d1 d2 j5 hmin hb3 hg3
  generalize p'.W = w4 at *
  cases ab with
  | false =>
    have hsay := dsay_any HP4.out i (by rw [HLL.out]; exact hi) 3 0 ht0 (by omega) (by omega) (by omega)
    rw [Int.add_zero] at hsay
    have HSAY : Aside0 _ := ⟨hsay⟩
    clear hsay
    go_wp2_with (go_at_call 68; refine HSAY.out.mono ?_; rintro e w5 ⟨rfl, hr5, hg5⟩)
    (try simp only [Exit.inBlock, Exit.then]); refine bodyPost_ret (results_none rfl _ _ _) rfl ?_
    exact ⟨rfl, v2, by rw [HDEC.out]; exact hr5⟩
  | true =>
    obtain ⟨na, hna⟩ : ∃ na, na = ah.length := ⟨_, rfl⟩
    have HNA := hide hna
    rw [← hna] at hahl ⊢
    clear hna
    go_wp2_with fail
    go_loopw [9, 49] (fun _ iq wr => ∃ k : Nat, k ≤ na ∧ iq = .int .i64 k ∧ ∃ sk : DS, Aside0 (DAt w0 wr g p q (some ⟨b0, o0, none⟩) b0 o0 c0 l v2 t sk) ∧ Hid (sk = Dov.shedAll t s2 (ah.take k)) ∧ Aside0 (wr.ownsRow B 3 1 (.slice A ah.length c) ah.length (ints (natI ah)))) (fun _ iq _ => na - (intOf iq).toNat)
    case atStart => exact ⟨0, by omega, rfl, s2, HP4, rfl, HOA4⟩
    case round =>
      obtain ⟨k, hk, rfl, sk, HK, HS, HOK⟩ := hrel
      by_cases hlt : k < na
      · have hka : k < ah.length := by rw [← HNA.out]; exact hlt
        obtain ⟨ba, rfl⟩ : ∃ ba, A = some ⟨ba, 0, none⟩ := by
          rcases Joins.ownsRow_forms HOK.out with ⟨hv, h0⟩ | ⟨g', cap, hv⟩
          · omega
          · simp only [Value.slice.injEq] at hv
            exact ⟨g', hv.1⟩
        have hc := own_int HOK.out k hka
        rw [natI_at ah k hka] at hc
        have hmem := HAH.out _ (getD_mem (d := 0) hka)
        have hstep : Dov.shedAll t s2 (ah.take (k + 1)) = Dov.say sk (ah.getD k 0) 3 t := by
          unfold Dov.shedAll
          rw [List.take_succ_eq_append_getElem hka, List.foldl_append, HS.out, List.getD_eq_getElem?_getD, List.getElem?_eq_getElem hka]
          rfl
        have HST := hide hstep
        clear hstep
        generalize ah.getD k 0 = x at hc hmem HST
        have hsay := dsay_any HK.out x (by rw [HLL.out]; exact hmem) 3 0 ht0 (by omega) (by omega) (by omega)
        rw [Int.add_zero] at hsay
        have HSAY : Aside0 _ := ⟨hsay⟩
        have hkz : (k : Int) < (na : Int) := by omega
        clear hsay
        go_wp2_with (go_at_call 68; refine HSAY.out.mono ?_; rintro e w5 ⟨rfl, hr5, hg5⟩)
        have hok5 := HOK.out.kept hg5 (.inr fun he => by have h1 := own_ge HOK.out he; have h2 := HFA2.out; omega)
        have HOK5 : Aside0 _ := ⟨hok5⟩
        have HR5 : Aside0 _ := ⟨hr5⟩
        clear hok5 hr5 hg5
        go_roundw
        case rel => exact ⟨k + 1, by omega, by go_num, _, HR5, by show _ = _; rw [HST.out], HOK5⟩
        case measure => simp [intOf]; omega
      · have hfin : sk = Dov.shedAll t s2 ah := by rw [HS.out, List.take_of_length_le (by rw [← HNA.out]; omega)]
        have HF := hide hfin
        clear hfin
        go_wp2
        go_end0
        exact ⟨rfl, v2, by rw [HDEC.out]; simp only [if_true]; rw [← HF.out]; exact HK.out⟩
end
end Go.Proofs.YtjgegnjclmkpeaaDoor
set_option linter.unusedVariables false
set_option linter.unusedSimpArgs false
namespace Go.Proofs.YtjgegnjclmkpeaaDoor
open Go.RowKit

section
variable {w0 w : World} {g : Nat} {p q : Int} {A0 : Option Addr} {b0 o0 c0 : Nat} {l : List Job} {v : DV} {t : Int} {s : DS}
/-- What ring does. -/
def RingIs (w0 : World) (g : Nat) (p q : Int) (A0 : Option Addr) (b0 o0 c0 : Nat) (l : List Job) (t : Int) (s : DS) (e : Ending) (w' : World) : Prop :=
  (e = .returned (.bool false) ∧ Dov.ring l p q t s = none ∧ ∃ v', DAt w0 w' g p q A0 b0 o0 c0 l v' t s) ∨ (e = .returned (.bool true) ∧ ∃ s', Dov.ring l p q t s = some s' ∧ ∃ v', DAt w0 w' g p q A0 b0 o0 c0 l v' t s')
theorem DAt.low (h : DAt w0 w g p q A0 b0 o0 c0 l v t s) : Low w.heap.size g v := ⟨h.glt, h.ltfa, fun k hk => own_size h.oal (by rw [ob_slice]; exact hk)⟩
theorem Low.le {B B' : Nat} (h : Low B g v) (hB : B ≤ B') : Low B' g v := ⟨Nat.lt_of_lt_of_le h.g hB, Nat.lt_of_lt_of_le h.fa hB, fun k hk => Nat.lt_of_lt_of_le (h.al k hk) hB⟩
theorem ringGo_abo {l : List Job} {s : DS} {t : Int} {r ah : List Nat} {v : Int} {i : Nat} (h : Dov.abo l s i = true) : Dov.ringGo l s t (i :: r) ah v = Dov.ringGo l s t r ah v := by
  rw [Dov.ringGo, h]; rfl
theorem ringGo_on {l : List Job} {s : DS} {t : Int} {r ah : List Nat} {v : Int} {i : Nat} (h : Dov.abo l s i = false) (h2 : ah = [] ∨ ¬ (Rob.jb l i).dl - t ≤ (Rob.jb l i).charge - Dov.ranAt s i) : Dov.ringGo l s t (i :: r) ah v = Dov.ringGo l s t r (ah ++ [i]) (v + (Rob.jb l i).val) := by
  rw [Dov.ringGo, h]
  rcases h2 with rfl | h2
  · rfl
  · rw [decide_eq_false h2, Bool.and_false]; rfl
theorem ringGo_off {l : List Job} {s : DS} {t : Int} {r ah : List Nat} {v : Int} {i : Nat} (h : Dov.abo l s i = false) (h1 : ah ≠ []) (h2 : (Rob.jb l i).dl - t ≤ (Rob.jb l i).charge - Dov.ranAt s i) : Dov.ringGo l s t (i :: r) ah v = some (i, ah, v) := by
  rw [Dov.ringGo, h, decide_eq_true h2]
  cases ah with
  | nil => exact absurd rfl h1
  | cons a b => rfl
set_option maxHeartbeats 4000000 in
set_option maxRecDepth 100000 in
theorem dring_any (h : DAt w0 w g p q A0 b0 o0 c0 l v t s) (hT : Tabs w0) (hr : PQ p q) (F : DFine l t s) (hl20 : l.length < 20) (hal : s.al.length ≤ 100000000) :
    Calls Tryd.prog 66 #[.pointer (some ⟨g, 0, none⟩)] w (RingIs w0 g p q A0 b0 o0 c0 l t s) := by
  have hn := h.jobs.len
  have mixed : Tryd.prog.follows .mixedOrders = true := by kernel_rfl
  have hlow := h.low
  have hlives := dlives_any h hl20
  have HLIVES : Aside0 _ := ⟨hlives⟩
  have hring : Dov.ring l p q t s = (Dov.ringGo l s t (Dov.lives l s t) [] 0).map fun x => Dov.dec l p q t s x.1 x.2.1 x.2.2 := rfl
  have HRING := hide hring
  have hlm : ∀ i ∈ Dov.lives l s t, i < l.length := fun i hi => (Dov.lives_mem.1 hi).1
  have HLM := hide hlm
  have hll : (Dov.lives l s t).length ≤ l.length := by
    unfold Dov.lives
    have := List.length_filter_le (Dov.live l s t) (Rob.byDl l)
    rw [byDl_len] at this; exact this
  have hle : (Dov.lives l s t).length < 20 := by omega
  have HH : Aside0 _ := ⟨h⟩
  have HF : Aside0 _ := ⟨F⟩
  have HLOW : Aside0 _ := ⟨hlow⟩
  have ht0 := F.t0
  have ht1 := F.t1
  clear h hlow hlives hring hlm hll F
  generalize Dov.lives l s t = L at *
  obtain ⟨n1, hn1⟩ : ∃ n1, n1 = L.length := ⟨_, rfl⟩
  have HN1 := hide hn1
  rw [← hn1] at HLIVES hle
  clear hn1
  go_enter Tryd.func66, Tryd.ntmps66
  go_wp2_with (go_at_call 106; refine HLIVES.out.mono ?_; rintro e w1 ⟨hb1, A1, c1, rfl, ho1⟩)
  have HB1 : Aside0 _ := ⟨hb1⟩
  have HO1 : Aside0 _ := ⟨ho1⟩
  have hs1 := hb1.size
  clear hb1 ho1
  go_loopw [3, 4, 6, 7, 11] (fun x y _ _ ix wr => ∃ k : Nat, k ≤ n1 ∧ ix = .int .i64 k ∧ Aside0 (Below w1.heap.size w1 wr) ∧ ∃ (ah : List Nat) (val : Int) (A : Option Addr) (c : Nat), x = .slice A ah.length c ∧ y = .int .i64 val ∧ 0 ≤ val ∧ val ≤ 1000000 * k ∧ ah.length ≤ k ∧ Hid (∀ i ∈ ah, i < l.length) ∧ Aside0 (wr.ownsRow w1.heap.size 3 1 (.slice A ah.length c) ah.length (ints (natI ah))) ∧ Hid (Dov.ringGo l s t L [] 0 = Dov.ringGo l s t (L.drop k) ah val)) (fun _ _ _ _ ix _ => n1 - (intOf ix).toNat)
  case atStart => exact ⟨0, by omega, rfl, ⟨Below.refl _ _⟩, [], 0, none, 0, rfl, rfl, by omega, by omega, Nat.le_refl _, hide (fun i hi => by cases hi), ⟨World.ownsRow_nil _ _ _ _⟩, rfl⟩
  case round =>
    obtain ⟨k, hk, rfl, HB, ah, val, A, c, rfl, rfl, hv0, hv1, hahl, HAH, HO, HK⟩ := hrel
    by_cases hlt : k < n1
    · have hkl : k < L.length := by rw [← HN1.out]; exact hlt
      have hbw := below_then HB1.out HB.out
      have hDA := HH.out.below hbw
      obtain ⟨b1, rfl⟩ : ∃ b1, A1 = some ⟨b1, 0, none⟩ := by
        rcases Joins.ownsRow_forms HO1.out with ⟨hv, h0⟩ | ⟨g', cap, hv⟩
        · omega
        · simp only [Value.slice.injEq] at hv
          exact ⟨g', hv.1⟩
      have hc := own_int (own_below HO1.out HB.out) k (by omega)
      rw [natI_at L k hkl] at hc
      have hil := HLM.out _ (getD_mem (d := 0) hkl)
      have hdrop : L.drop k = L.getD k 0 :: L.drop (k + 1) := by
        rw [List.drop_eq_getElem_cons hkl, List.getD_eq_getElem?_getD, List.getElem?_eq_getElem hkl]; rfl
      rw [hdrop] at HK
      clear hdrop
      generalize L.getD k 0 = i at hc hil HK
      have habo := dabo_any hDA i hil
      have hkz : (k : Int) < (n1 : Int) := by omega
      have hw1s := HB.out.size
      have HDA : Aside0 _ := ⟨hDA⟩
      clear hbw hDA
      cases hab : Dov.abo l s i with
      | true =>
        rw [hab] at habo
        have HAB : Aside0 _ := ⟨habo⟩
        have hnx := HK.out
        rw [ringGo_abo hab] at hnx
        have HNX := hide hnx
        clear habo hab hnx
        go_wp2_with (go_at_call 107; refine HAB.out.mono ?_; rintro e w2 ⟨rfl, hb2⟩)
        go_roundw
        case rel => exact ⟨k + 1, by omega, by go_num, ⟨below_then HB.out hb2⟩, ah, val, A, c, rfl, rfl, hv0, by omega, by omega, HAH, ⟨own_below HO.out hb2⟩, HNX⟩
        case measure => simp [intOf]; omega
      | false =>
        rw [hab] at habo
        have HAB : Aside0 _ := ⟨habo⟩
        have HABE := hide hab
        obtain ⟨hA0, -, -, -⟩ := HDA.out.job i hil
        subst hA0
        have hjob : ∀ W, Below wr.heap.size wr W → W.cell? ⟨g, 2, none⟩ = some (.slice (some ⟨b0, o0, none⟩) l.length c0) ∧ Row W b0 (o0 + i * 8) (Rob.jb l i) := fun W hW => by
          obtain ⟨-, -, d2, -, -, -, -, -, -⟩ := (HDA.out.below hW).cells
          exact ⟨d2, ((HDA.out.below hW).job i hil).2.1⟩
        have HJOB : Aside0 _ := ⟨hjob⟩
        have hokj := HF.out.job hil
        have hnm := (HDA.out.job i hil).2.2.2
        have hO := Job.ok_of_good hokj
        have q1 := hO.dl1
        have q2 := hO.rel0
        have q3 := hO.rel1
        have q4 := hO.val0
        have q5 := hO.val1
        have q6 := hO.charge0
        have q7 := hO.charge1
        have hrn := HF.out.ran i hil
        obtain ⟨j, hj⟩ : ∃ j, j = Rob.jb l i := ⟨_, rfl⟩
        have HJ := hide hj
        obtain ⟨n, hnn⟩ : ∃ n, n = l.length := ⟨_, rfl⟩
        have HNN := hide hnn
        rw [← hj] at HJOB hokj hnm q1 q2 q3 q4 q5 q6 q7
        rw [← hnn] at HJOB hn hil
        clear habo hab hjob hO hj hnn
        have hiz : (i : Int) < (n : Int) := by omega
        go_wp2_with (go_at_call 107; refine HAB.out.mono ?_; rintro e w2 ⟨rfl, hb2⟩; obtain ⟨d2, ⟨j0, j1, j2, j3, j4, j5, j6, j7⟩⟩ := HJOB.out w2 hb2)
        obtain ⟨W3, hW, hb3, hk3, e0, e1, e2, e3, e4, e5, e6, e7⟩ := jbox w2 j
        rw [hW]
        simp only [Nat.zero_add] at e0 e1 e2 e3 e4 e5 e6 e7
        have hb23 := below_then hb2 hb3
        have hb2s := hb2.size
        have hD3 := HDA.out.below hb23
        have HD3 : Aside0 _ := ⟨hD3⟩
        have HB3 : Aside0 _ := ⟨below_then HB.out hb23⟩
        have HO3 : Aside0 _ := ⟨own_below HO.out hb23⟩
        have hw3s := HB3.out.size
        obtain ⟨-, -, -, -, f4, -, -, -, f8⟩ := hD3.cells
        have hrc := hD3.cran i (by rw [← HNN.out]; exact hil)
        have hg3 := hD3.glt
        have hr3 := hD3.ltran
        have hT3 := hD3.tabs hT
        rw [← HNN.out] at f4
        have hcs := bw_cells W3
        have HNM := hide hnm
        clear hnm
        have HCH : Aside0 _ := ⟨fun p' : BW W3 => calls_bw p' (charge_any j.name j.rel j.dl j.bud j.act j.val j.cln j.hard p'.W HNM.out (hT3.below p'.h) hokj)⟩
        have hcj : j.bud + j.cln = j.charge := rfl
        rw [hcj] at HCH
        have hjc : ∀ (r' ah' : List Nat) (v' : Int), ah' = [] ∨ ¬ j.dl - t ≤ j.charge - Dov.ranAt s i → Dov.ringGo l s t (i :: r') ah' v' = Dov.ringGo l s t r' (ah' ++ [i]) (v' + j.val) := fun r' ah' v' h2 => by
          rw [HJ.out] at h2 ⊢
          exact ringGo_on HABE.out h2
        have hjo : ∀ (r' ah' : List Nat) (v' : Int), ah' ≠ [] → j.dl - t ≤ j.charge - Dov.ranAt s i → Dov.ringGo l s t (i :: r') ah' v' = some (i, ah', v') := fun r' ah' v' h1 h2 => by
          rw [HJ.out] at h2
          exact ringGo_off HABE.out h1 h2
        have HJC := hide hjc
        have HJO := hide hjo
        clear hjc hjo hcj hW d2 j0 j1 j2 j3 j4 j5 j6 j7 hb2 hb3 hb23 hD3 hT3
        generalize j.charge = cg at *
        generalize Dov.ranAt s i = rn at *
        have hw1 : IntKind.i64.wrap (j.dl - t) = j.dl - t := by rw [IntKind.wrap_i64]; omega
        have hw2 : IntKind.i64.wrap (cg - rn) = cg - rn := by rw [IntKind.wrap_i64]; omega
        have hvw : IntKind.i64.wrap (val + j.val) = val + j.val := by rw [IntKind.wrap_i64]; omega
        have HVW := hide hvw
        have hrn0 := hrn.1
        have hrn1 := hrn.2
        clear hvw hrn
        by_cases hgo : ah = [] ∨ ¬ j.dl - t ≤ cg - rn
        · have hnx := HK.out
          rw [HJC.out _ _ _ hgo] at hnx
          have HNX := hide hnx
          clear hnx
          have hend : ∀ (ws : World), Below W3.heap.size W3 ws → ∀ (g2 cap2 : Nat) (w5 : World), w5.ownsRow w1.heap.size 3 1 (.slice (some ⟨g2, 0, none⟩) (ah.length + 1) cap2) (ah.length + 1) (ints (natI ah ++ [(i : Int)])) → ws.grownBy w5 (ob A) → Aside0 (Below w1.heap.size w1 w5 ∧ w5.ownsRow w1.heap.size 3 1 (.slice (some ⟨g2, 0, none⟩) (ah ++ [i]).length cap2) (ah ++ [i]).length (ints (natI (ah ++ [i])))) := fun ws hws g2 cap2 w5 ho5 hg5 => by
            refine ⟨below_grown (below_then HB3.out hws) (own_below HO3.out hws) (Nat.le_refl _) (Nat.le_trans hw3s hws.size) hg5, ?_⟩
            rw [natI_snoc, List.length_append]; exact ho5
          have HEND : Aside0 _ := ⟨hend⟩
          have hvalc : ∀ (ws : World), Below W3.heap.size W3 ws → ∀ (g2 cap2 : Nat) (w5 : World), ws.grownBy w5 (ob A) → w5.cell? ⟨w2.heap.size, 5, none⟩ = some (.int .i64 j.val) := fun ws hws g2 cap2 w5 hg5 => by
            refine hg5.cell ((hws.cell (p := ⟨w2.heap.size, 5, none⟩) hk3).trans e5) (fun he => ?_)
            have := own_size HO.out (g := w2.heap.size) (by rw [ob_slice]; exact he.symm)
            have := hb2s
            omega
          have HVALC : Aside0 _ := ⟨hvalc⟩
          have fin : ∀ (ws : World), Below W3.heap.size W3 ws → Aside0 (Below W3.heap.size W3 ws) := fun ws h => ⟨h⟩
          by_cases he : ah = []
          · subst he
            have hz : ¬ ((0 : Int) < 0) := by omega
            refine wp_region_bw mixed (by kernel_rfl) ?_
            repeat (go_big_quiet_step ((go_at_call 59; exact HCH.out _)))
            refine wpQuiet_nil ?_
            rintro w' ⟨p', rfl⟩
            have HP : Aside0 _ := ⟨p'.h⟩
            have hsz := p'.h.size
            have hvw := HVW.out
            go_wp2_with (at_builtin; refine wpList_push (by rfl) (.tmp 53) (.tmp 55) (by rfl) w1.heap.size A 0 c [] i (by rfl) (own_below HO3.out HP.out) _ rfl (by rfl) (by omega) (by omega) ?_; intro g2 cap2 w5 ho5 hg5 hat5; have hv5 := HVALC.out p'.W HP.out g2 cap2 w5 hg5; have HE := HEND.out p'.W HP.out g2 cap2 w5 ho5 hg5)
            go_roundw
            case rel => exact ⟨k + 1, by omega, by go_num, ⟨HE.out.1⟩, [] ++ [i], val + j.val, _, cap2, rfl, rfl, by omega, by omega, by simp, by
              show ∀ x ∈ [] ++ [i], _
              intro x hx
              obtain rfl : x = i := by simpa using hx
              rw [← HNN.out]; exact hil, ⟨HE.out.2⟩, HNX⟩
            case measure => simp [intOf]; omega
          · have hlp : 0 < ah.length := List.length_pos_iff.2 he
            have hz : (0 : Int) < (ah.length : Int) := by omega
            have hcc : ¬ j.dl - t ≤ cg - rn := hgo.resolve_left he
            have hcd := decide_eq_false hcc
            have hzd : decide (0 < ah.length) = true := decide_eq_true hlp
            refine wp_region_bw mixed (by kernel_rfl) ?_
            repeat (go_big_quiet_step ((go_at_call 59; exact HCH.out _)))
            refine wpQuiet_nil ?_
            rintro w' ⟨p', rfl⟩
            have HP : Aside0 _ := ⟨p'.h⟩
            have hsz := p'.h.size
            have hvw := HVW.out
            go_wp2_with (at_builtin; refine wpList_push (by rfl) (.tmp 53) (.tmp 55) (by rfl) w1.heap.size A ah.length c (natI ah) i (by rfl) (own_below HO3.out HP.out) _ rfl (by rfl) (by omega) (by omega) ?_; intro g2 cap2 w5 ho5 hg5 hat5; have hv5 := HVALC.out p'.W HP.out g2 cap2 w5 hg5; have HE := HEND.out p'.W HP.out g2 cap2 w5 ho5 hg5)
            go_roundw
            case rel => exact ⟨k + 1, by omega, by go_num, ⟨HE.out.1⟩, ah ++ [i], val + j.val, _, cap2, by simp, rfl, by omega, by omega, by simp; omega, by
              show ∀ x ∈ ah ++ [i], _
              intro x hx
              rcases List.mem_append.1 hx with hx | hx
              · exact HAH.out x hx
              · obtain rfl : x = i := by simpa using hx
                rw [← HNN.out]; exact hil, ⟨HE.out.2⟩, HNX⟩
            case measure => simp [intOf]; omega
        · have he : ah ≠ [] := fun e => hgo (.inl e)
          have hcc : j.dl - t ≤ cg - rn := Decidable.byContradiction fun e => hgo (.inr e)
          have hnx := HK.out
          rw [HJO.out _ _ _ he hcc] at hnx
          have hRR : Dov.ring l p q t s = some (Dov.dec l p q t s i ah val) := by rw [HRING.out, hnx]; rfl
          have HRR := hide hRR
          have hlp : 0 < ah.length := List.length_pos_iff.2 he
          have hz : (0 : Int) < (ah.length : Int) := by omega
          have hcd := decide_eq_true hcc
          have hzd : decide (0 < ah.length) = true := decide_eq_true hlp
          have hdec : ∀ ws, Below W3.heap.size W3 ws → _ := fun ws hws => ddecide_any (HD3.out.below hws) hT hr ht0 ht1 i (by rw [← HNN.out]; exact hil) (HF.out.job (by rw [← HNN.out]; exact hil)) val hv0 (by omega) ah HAH.out (by omega) w1.heap.size (HLOW.out.le hs1) A c (own_below HO3.out hws) hal
          have HDEC : Aside0 _ := ⟨hdec⟩
          clear hnx hRR hdec
          refine wp_region_bw mixed (by kernel_rfl) ?_
          repeat (go_big_quiet_step ((go_at_call 59; exact HCH.out _)))
          refine wpQuiet_nil ?_
          rintro w' ⟨p', rfl⟩
          have HP : Aside0 _ := ⟨p'.h⟩
          go_wp2_with (go_at_call 108; refine (HDEC.out _ HP.out).mono ?_; rintro e w5 ⟨rfl, v5, hr5⟩)
          go_ret
          exact .inr ⟨rfl, _, HRR.out, v5, hr5⟩
    · have hnone : Dov.ringGo l s t L [] 0 = none := by
        rw [HK.out, List.drop_eq_nil_of_le (by rw [← HN1.out]; omega)]; rfl
      have hfin : Dov.ring l p q t s = none := by rw [HRING.out, hnone]; rfl
      have HFI := hide hfin
      clear hfin hnone
      go_wp2
      go_ret
      exact .inl ⟨rfl, HFI.out, v, HH.out.below (below_then HB1.out HB.out)⟩
end
end Go.Proofs.YtjgegnjclmkpeaaDoor
set_option linter.unusedVariables false
set_option linter.unusedSimpArgs false
namespace Go.Proofs.YtjgegnjclmkpeaaDoor
open Go.RowKit

section
variable {w0 w : World} {g : Nat} {p q : Int} {A0 : Option Addr} {b0 o0 c0 : Nat} {l : List Job} {v : DV} {t : Int} {s : DS}
set_option maxHeartbeats 4000000 in
set_option maxRecDepth 100000 in
theorem drun_any (h : DAt w0 w g p q A0 b0 o0 c0 l v t s) (hT : Tabs w0) (F : DFine l t s) (hF : ∀ i, i < l.length → Dov.ranAt s i ≤ 9999) (hl20 : l.length < 20) (htr : s.tr.length ≤ 100000000) :
    Calls Tryd.prog 67 #[.pointer (some ⟨g, 0, none⟩)] w fun e w' => e = .returned (.tuple #[]) ∧ ∃ v', DAt w0 w' g p q A0 b0 o0 c0 l v' t (Dov.runTick l t s) := by
  have hn := h.jobs.len
  have mixed : Tryd.prog.follows .mixedOrders = true := by kernel_rfl
  have hlives := dlives_any h hl20
  have HLIVES : Aside0 _ := ⟨hlives⟩
  obtain ⟨m, hm⟩ : ∃ m, m = s.tr.length := ⟨_, rfl⟩
  have HM := hide hm
  have hcs : ∀ W, Below w.heap.size w W → W.cell? ⟨g, 5, none⟩ = some (.slice v.Atr m v.ctr) ∧ g < W.heap.size := fun W hW => by
    obtain ⟨-, -, -, -, -, d5, -, -, -⟩ := (h.below hW).cells
    rw [← hm] at d5
    exact ⟨d5, (h.below hW).glt⟩
  have HCS : Aside0 _ := ⟨hcs⟩
  have hotr : ∀ W, Below w.heap.size w W → W.ownsRow w0.heap.size 3 1 (.slice v.Atr m v.ctr) m (ints s.tr) ∧ w0.heap.size ≤ W.heap.size := fun W hW => by
    have := (h.below hW).otr
    rw [← hm] at this
    exact ⟨this, (h.below hW).base.size⟩
  have HOTR : Aside0 _ := ⟨hotr⟩
  have hlm : ∀ i ∈ Dov.lives l s t, i < l.length := fun i hi => (Dov.lives_mem.1 hi).1
  have hrt : Dov.runTick l t s = match Dov.lives l s t with | [] => { s with tr := s.tr ++ [-1] } | i :: _ => Dov.runAt l t i s := rfl
  have HRT := hide hrt
  have HH : Aside0 _ := ⟨h⟩
  have HFF : Aside0 _ := ⟨F⟩
  have HF9 := hide hF
  have ht0 := F.t0
  have ht1 := F.t1
  rw [← hm] at htr
  clear h hlives hcs hotr hrt F hF hm
  generalize Dov.lives l s t = L at *
  cases L with
  | nil =>
    simp only at HRT
    clear hlm
    go_enter Tryd.func67, Tryd.ntmps67
    go_wp2_with (first | (go_at_call 106; refine HLIVES.out.mono ?_; rintro e w1 ⟨hb1, A1, c1, rfl, ho1⟩; obtain ⟨d5, hg1⟩ := HCS.out w1 hb1; simp only [List.length_nil]) | (at_builtin; refine wpList_push (by rfl) (.tmp 18) (.tmp 20) (by rfl) w0.heap.size v.Atr m v.ctr s.tr (-1) (by rfl) (HOTR.out w1 hb1).1 _ rfl (by rfl) (by omega) (HOTR.out w1 hb1).2 ?_; intro g2 cap2 w2 ho2 hg2 hat2; have hD1 := HH.out.below hb1; have hc5 := (hD1.row_cells (HOTR.out w1 hb1).1 hg2 5).1.trans d5; have hz5 := (hD1.row_cells (HOTR.out w1 hb1).1 hg2 5).2; have HP : Aside0 (DAt w0 (w2.setCell ⟨g, 5, none⟩ (.slice (some ⟨g2, 0, none⟩) (m + 1) cap2)) g p q A0 b0 o0 c0 l { v with Atr := some ⟨g2, 0, none⟩, ctr := cap2 } t { s with tr := s.tr ++ [-1] }) := ⟨by have := hD1.push_tr (x := (-1 : Int)) hg2 (by rw [← HM.out, ← ints_snoc]; exact ho2) hat2; rw [← HM.out] at this; exact this⟩))
    (try simp only [Exit.inBlock, Exit.then]); refine bodyPost_ret (results_none rfl _ _ _) rfl ?_
    exact ⟨rfl, _, by rw [HRT.out]; exact HP.out⟩
  | cons k r =>
    have hk := hlm k (by simp)
    simp only at HRT
    obtain ⟨n1, hn1⟩ : ∃ n1, n1 = r.length := ⟨_, rfl⟩
    have hkc : (natI (k :: r)).getD 0 0 = (k : Int) := rfl
    have hkc2 : ∀ (W : World) (A1 : Option Addr) (c1 : Nat), W.ownsRow w.heap.size 3 1 (.slice A1 (n1 + 1) c1) (n1 + 1) (ints (natI (k :: r))) → ∃ b1, A1 = some ⟨b1, 0, none⟩ ∧ W.cell? ⟨b1, 0, none⟩ = some (.int .i64 k) := fun W A1 c1 ho => by
      rcases Joins.ownsRow_forms ho with ⟨hv, h0⟩ | ⟨g', cap, hv⟩
      · omega
      · simp only [Value.slice.injEq] at hv
        obtain ⟨rfl, -, -⟩ := hv
        have := own_int ho 0 (by omega)
        rw [hkc] at this
        exact ⟨g', rfl, this⟩
    have HKC := hide hkc2
    rw [List.length_cons, ← hn1] at HLIVES
    have hne1 : ((k : Int) == -1) = false := beq_eq_false_iff_ne.2 (by omega)
    clear hkc hkc2 hlm hn1
    go_enter Tryd.func67, Tryd.ntmps67
    go_upto_region 5 with (first | (go_at_call 106; refine HLIVES.out.mono ?_; rintro e w1 ⟨hb1, A1, c1, rfl, ho1⟩; obtain ⟨d5, hg1⟩ := HCS.out w1 hb1; obtain ⟨b1, rfl, hc0⟩ := HKC.out w1 A1 c1 ho1) | (at_builtin; refine wpList_push (by rfl) (.tmp 18) (.tmp 20) (by rfl) w0.heap.size v.Atr m v.ctr s.tr k (by rfl) (HOTR.out w1 hb1).1 _ rfl (by rfl) (by omega) (HOTR.out w1 hb1).2 ?_; intro g2 cap2 w2 ho2 hg2 hat2; have hD1 := HH.out.below hb1; have hc5 := (hD1.row_cells (HOTR.out w1 hb1).1 hg2 5).1.trans d5; have hz5 := (hD1.row_cells (HOTR.out w1 hb1).1 hg2 5).2; have HP : Aside0 (DAt w0 (w2.setCell ⟨g, 5, none⟩ (.slice (some ⟨g2, 0, none⟩) (m + 1) cap2)) g p q A0 b0 o0 c0 l { v with Atr := some ⟨g2, 0, none⟩, ctr := cap2 } t { s with tr := s.tr ++ [(k : Int)] }) := ⟨by have := hD1.push_tr (x := (k : Int)) hg2 (by rw [← HM.out, ← ints_snoc]; exact ho2) hat2; rw [← HM.out] at this; exact this⟩))
    obtain ⟨v3, hv3⟩ : ∃ v3 : DV, v3 = { v with Atr := some ⟨g2, 0, none⟩, ctr := cap2 } := ⟨_, rfl⟩
    rw [← hv3] at HP
    clear hv3 ho2 hg2 hat2 hD1 hc5 hz5 hb1 ho1 d5 hg1 hc0 HCS HOTR HLIVES HKC
    generalize w2.setCell ⟨g, 5, none⟩ (.slice (some ⟨g2, 0, none⟩) (m + 1) cap2) = w3 at *
    obtain ⟨-, -, -, -, d4, -, -, -, -⟩ := HP.out.cells
    have hrc := HP.out.cran k hk
    have hrz := HP.out.oran.frozenAt k
    have hr0 := (HFF.out.ran k hk).1
    have hr1 := HF9.out k hk
    have hrs : Dov.ranAt { s with tr := s.tr ++ [(k : Int)] } k = Dov.ranAt s k := rfl
    rw [hrs] at hrc
    obtain ⟨rn, hrn⟩ : ∃ rn, rn = Dov.ranAt s k := ⟨_, rfl⟩
    have HRN := hide hrn
    rw [← hrn] at hrc hr0 hr1
    obtain ⟨n, hnn⟩ : ∃ n, n = l.length := ⟨_, rfl⟩
    have HNN := hide hnn
    rw [← hnn] at d4
    have hkz : (k : Int) < (n : Int) := by omega
    clear hrs hrn hnn
    go_upto_region 7 with fail
    have hset := HP.out.set_ran k (rn + 1)
    obtain ⟨s5, hs5⟩ : ∃ s5 : DS, s5 = { s with tr := s.tr ++ [(k : Int)], ran := s.ran.set k (rn + 1) } := ⟨_, rfl⟩
    have hset5 : DAt w0 (w3.setCell ⟨v3.bran, k, none⟩ (.int .i64 (rn + 1))) g p q A0 b0 o0 c0 l v3 t s5 := by rw [hs5]; exact hset
    have hran5 : Dov.ranAt s5 k = rn + 1 := by
      rw [hs5]
      show (s.ran.set k (rn + 1)).getD k 0 = rn + 1
      rw [getD_set_eq, if_pos ⟨rfl, by rw [HH.out.lran]; exact hk⟩]
    have hrun : Dov.runAt l t k s = if rn + 1 < (Rob.jb l k).work then s5 else Dov.say s5 k (if (Rob.jb l k).runs then 1 else 2) (t + 1) := by
      rw [hs5, HRN.out]; rfl
    have HRUN := hide hrun
    have HS5 : Aside0 _ := ⟨hset5⟩
    clear hset hset5 hrc hrz d4 hrun hs5
    generalize w3.setCell ⟨v3.bran, k, none⟩ (.int .i64 (rn + 1)) = w5 at *
    obtain ⟨hA, ⟨j0, j1, j2, j3, j4, j5, j6, j7⟩, hb5, hnm⟩ := HS5.out.job k hk
    subst hA
    obtain ⟨-, -, d2, -, d4, -, -, -, -⟩ := HS5.out.cells
    rw [← HNN.out] at d2 d4
    have hrc := HS5.out.cran k hk
    rw [hran5] at hrc
    have hg5 := HS5.out.glt
    have hbr5 := HS5.out.ltran
    have hT5 := HS5.out.tabs hT
    have hokj := HFF.out.job hk
    obtain ⟨j, hj⟩ : ∃ j, j = Rob.jb l k := ⟨_, rfl⟩
    have HJ := hide hj
    rw [← hj] at j0 j1 j2 j3 j4 j5 j6 j7 hnm hokj HRUN
    have hcs := bw_cells w5
    have hwork := fun p' : BW w5 => calls_bw p' (work_any j.name j.rel j.dl j.bud j.act j.val j.cln j.hard p'.W hnm (hT5.below p'.h) hokj)
    have hwj : Job.work ⟨j.name, j.rel, j.dl, j.bud, j.act, j.val, j.cln, j.hard⟩ = j.work := rfl
    rw [hwj] at hwork
    generalize j.work = wk at *
    have HWORK : Aside0 _ := ⟨hwork⟩
    have HTI := hide (show Dov.runTick l t s = Dov.runAt l t k s from HRT.out)
    clear hwork hwj hran5 HP hr0 hr1 hT5 hokj hj HRT
    by_cases hlt : rn + 1 < wk
    · have hd := decide_eq_true hlt
      have HD := hide hlt
      refine wp_region_bw mixed (by kernel_rfl) ?_
      repeat (go_big_quiet_step ((go_at_call 57; exact HWORK.out _)))
      refine wpQuiet_nil ?_
      rintro w' ⟨p', rfl⟩
      go_wp2
      (try simp only [Exit.inBlock, Exit.then]); refine bodyPost_ret (results_none rfl _ _ _) rfl ?_
      exact ⟨rfl, v3, by rw [HTI.out, HRUN.out, if_pos HD.out]; exact HS5.out.below p'.h⟩
    · have hd := decide_eq_false hlt
      have HD := hide hlt
      refine wp_region_bw mixed (by kernel_rfl) ?_
      repeat (go_big_quiet_step ((go_at_call 57; exact HWORK.out _)))
      refine wpQuiet_nil ?_
      rintro w' ⟨p', rfl⟩
      have HS6 : Aside0 _ := ⟨HS5.out.below p'.h⟩
      obtain ⟨-, ⟨k0, k1, k2, k3, k4, k5, k6, k7⟩, -, -⟩ := HS6.out.job k hk
      obtain ⟨-, -, f2, -, -, -, -, -, -⟩ := HS6.out.cells
      rw [← HNN.out] at f2
      rw [← HJ.out] at k0 k1 k2 k3 k4 k5 k6 k7
      clear hcs d2 d4 hrc j0 j1 j2 j3 j4 j5 j6 j7 hb5 hg5 hbr5 HWORK
      generalize p'.W = w6 at *
      have hsay : ∀ (kd : Int) (W : World), Below w6.heap.size w6 W → Calls Tryd.prog 68 #[.pointer (some ⟨g, 0, none⟩), .int .i64 k, .int .i64 kd, .int .i64 1] W fun e w' => e = .returned (.tuple #[]) ∧ DAt w0 w' g p q (some ⟨b0, o0, none⟩) b0 o0 c0 l v3 t (Dov.say s5 k kd (t + 1)) ∧ W.grownBy w' (some v3.bfa) :=
        fun kd W hW => dsay_any (HS6.out.below hW) k hk kd 1 ht0 (by omega) (by omega) (by omega)
      have HSAY : Aside0 _ := ⟨hsay⟩
      clear hsay
      cases hru : j.runs with
      | true =>
        have hra : decide (j.act ≤ j.bud) = true := hru
        have hrb : j.act ≤ j.bud := of_decide_eq_true hra
        have HRU := hide hru
        clear hru
        go_wp2_with (first | (go_at_call 19; refine (runs_any _ _ _ _ _ _ _ _ _).mono ?_; rintro e w7 ⟨rfl, hb7⟩) | (go_at_call 68; refine (HSAY.out 1 _ hb7).mono ?_; rintro e w8 ⟨rfl, hr8, hg8⟩))
        go_end0
        exact ⟨rfl, v3, by rw [HTI.out, HRUN.out, if_neg (by have := HD.out; omega), HRU.out]; exact hr8⟩
      | false =>
        have hra : decide (j.act ≤ j.bud) = false := hru
        have hrb : ¬ j.act ≤ j.bud := of_decide_eq_false hra
        have HRU := hide hru
        clear hru
        go_wp2_with (first | (go_at_call 19; refine (runs_any _ _ _ _ _ _ _ _ _).mono ?_; rintro e w7 ⟨rfl, hb7⟩) | (go_at_call 68; refine (HSAY.out 2 _ hb7).mono ?_; rintro e w8 ⟨rfl, hr8, hg8⟩))
        go_end0
        exact ⟨rfl, v3, by rw [HTI.out, HRUN.out, if_neg (by have := HD.out; omega), HRU.out]; exact hr8⟩
end
end Go.Proofs.YtjgegnjclmkpeaaDoor
