/- The robust runner: the walks of open, say, need, least, head. -/
import Derived.Test.YtjgegnjclmkpeaaDoorRobAt
set_option linter.unusedVariables false
set_option linter.unusedSimpArgs false
namespace Go.Proofs.YtjgegnjclmkpeaaDoor
open Go.RowKit

section
variable {w0 w : World} {g : Nat} {A0 : Option Addr} {b0 o0 c0 : Nat} {l : List Job} {v : RV} {t : Int} {s : RS}
theorem open_any (h : RAt w0 w g A0 b0 o0 c0 l v t s) (i : Nat) (hi : i < l.length) (is : Int) :
    Calls Tryd.prog 55 #[.pointer (some ⟨g, 0, none⟩), .int .i64 i, .int .i64 is] w fun e w' => e = .returned (.bool (Rob.opn s i is)) ∧ w = w' := by
  have hn := h.jobs.len
  obtain ⟨-, h1, -, -, h4, -, -, -⟩ := h.cells
  have h2 := h.cis i hi
  have h3 := (h.cfa i hi).1
  show Calls _ _ _ _ fun e w' => e = .returned (.bool (Rob.isAt s i == is && Rob.kindAt s i == 0)) ∧ w = w'
  generalize Rob.isAt s i = a at h2 ⊢
  generalize Rob.kindAt s i = k at h3 ⊢
  generalize l.length = n at *
  clear h
  cases hv : (a == is) with
  | true =>
    go_enter Tryd.func55, Tryd.ntmps55
    go_wp2
    go_ret
    exact ⟨rfl, rfl⟩
  | false =>
    go_enter Tryd.func55, Tryd.ntmps55
    go_wp2
    go_ret
    exact ⟨rfl, rfl⟩
set_option maxHeartbeats 1000000 in
theorem say_any (h : RAt w0 w g A0 b0 o0 c0 l v t s) (i : Nat) (hi : i < l.length) (k d : Int) (ht0 : 0 ≤ t) (ht1 : t ≤ 100000) (hd0 : 0 ≤ d) (hd1 : d ≤ 1000) :
    Calls Tryd.prog 56 #[.pointer (some ⟨g, 0, none⟩), .int .i64 i, .int .i64 k, .int .i64 d] w fun e w' => e = .returned (.tuple #[]) ∧
      RAt w0 w' g A0 b0 o0 c0 l v t (Rob.say s i k (t + d)) ∧ w.grownBy w' (some v.bfa) := by
  have hn := h.jobs.len
  obtain ⟨-, -, -, -, h4, -, -, h7⟩ := h.cells
  obtain ⟨h3, h3'⟩ := h.cfa i hi
  have f3 := h.ofa.frozenAt (i * 2)
  have f3' := h.ofa.frozenAt (i * 2 + 1)
  have fin : RAt w0 ((w.setCell ⟨v.bfa, i * 2, none⟩ (.int .i64 k)).setCell ⟨v.bfa, i * 2 + 1, none⟩ (.int .i64 (t + d))).drew g A0 b0 o0 c0 l v t (Rob.say s i k (t + d)) ∧ w.grownBy ((w.setCell ⟨v.bfa, i * 2, none⟩ (.int .i64 k)).setCell ⟨v.bfa, i * 2 + 1, none⟩ (.int .i64 (t + d))).drew (some v.bfa) :=
    ⟨(h.set_fa i k (t + d)).below (Below.refl _ _).drew, grown_trans (grown_trans (grown_set w v.bfa (i * 2) (.int .i64 k)) (grown_set _ v.bfa (i * 2 + 1) (.int .i64 (t + d)))) (grown_of_below (Below.refl _ _).drew _)⟩
  have FIN : Aside0 _ := ⟨fin⟩
  clear fin h
  generalize Rob.kindAt s i = k0 at h3
  generalize (s.fa.getD i (0, 0)).2 = a0 at h3'
  generalize l.length = n at *
  go_enter Tryd.func56, Tryd.ntmps56
  go_wp2
  go_region
  all_goals go_end0
  all_goals exact ⟨rfl, FIN.out⟩

/-! ### What is needed -/
theorem RAt.job (h : RAt w0 w g A0 b0 o0 c0 l v t s) (i : Nat) (hi : i < l.length) : A0 = some ⟨b0, o0, none⟩ ∧ Row w b0 (o0 + i * 8) (Rob.jb l i) ∧ b0 < w.heap.size ∧ (Rob.jb l i).name.size ≤ 140737488351232 :=
  ⟨h.jobs.addr (by omega), h.jobs.row i hi, h.jobs.lt (by omega), h.jobs.names _ (Rob.jb_mem hi)⟩
set_option maxHeartbeats 1000000 in
theorem need_any (h : RAt w0 w g A0 b0 o0 c0 l v t s) (hT : Tabs w0) (i : Nat) (hi : i < l.length) (hok : (Rob.jb l i).ok = true) (hr0 : 0 ≤ Rob.ranAt s i) (hr1 : Rob.ranAt s i ≤ 100000) :
    Calls Tryd.prog 95 #[.pointer (some ⟨g, 0, none⟩), .int .i64 i] w fun e w' => e = .returned (.int .i64 (Rob.need l s i)) ∧ Below w.heap.size w w' := by
  have hn := h.jobs.len
  obtain ⟨h0, -, h2, -, -, -, -, -⟩ := h.cells
  have hr := h.cran i hi
  obtain ⟨hA, ⟨j0, j1, j2, j3, j4, j5, j6, j7⟩, hb, hnm⟩ := h.job i hi
  subst hA
  have hT2 := h.tabs hT
  have mixed : Tryd.prog.follows .mixedOrders = true := by kernel_rfl
  have hg := h.glt
  have hbr := h.ltran
  have hO := Job.ok_of_good hok
  have q1 := hO.bud0
  have q2 := hO.bud1
  have q3 := hO.cln0
  have q4 := hO.cln1
  show Calls _ _ _ _ fun e w' => e = .returned (.int .i64 ((Rob.jb l i).bud + (Rob.jb l i).cln - Rob.ranAt s i)) ∧ Below w.heap.size w w'
  generalize Rob.jb l i = j at *
  generalize Rob.ranAt s i = r at *
  have HC : Aside0 (∀ p : BW w, Calls Tryd.prog 59 #[.agg #[.string j.name, .int .i64 j.rel, .int .i64 j.dl, .int .i64 j.bud, .int .i64 j.act, .int .i64 j.val, .int .i64 j.cln, .bool j.hard]] p.W fun e w'' => e = .returned (.int .i64 (j.bud + j.cln)) ∧ ∃ q : BW w, w'' = q.W) :=
    ⟨fun p => calls_bw p (charge_any _ _ _ _ _ _ _ _ _ hnm (hT2.below p.h) hok)⟩
  have hcs := bw_cells w
  have hw : IntKind.i64.wrap (j.bud + j.cln - r) = j.bud + j.cln - r := by rw [IntKind.wrap_i64]; omega
  clear h hO hok hT2
  generalize l.length = n at *
  go_enter Tryd.func95, Tryd.ntmps95
  go_wp2
  refine wp_region_bw mixed (by kernel_rfl) ?_
  repeat (go_big_quiet_step ((go_at_call 59; exact HC.out _)))
  refine wpQuiet_nil ?_
  rintro w' ⟨p, rfl⟩
  go_wp2
  go_ret
  exact ⟨ret_int (by first | rfl | exact hw), p.h⟩
end
end Go.Proofs.YtjgegnjclmkpeaaDoor
