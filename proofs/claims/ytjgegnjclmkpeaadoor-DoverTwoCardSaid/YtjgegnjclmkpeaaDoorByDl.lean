/- job.ByDeadline. -/
import Derived.Test.YtjgegnjclmkpeaaDoorTrace
import Derived.Test.YtjgegnjclmkpeaaDoorRobCalmPlain
set_option linter.unusedVariables false
set_option linter.unusedSimpArgs false
namespace Go.Proofs.YtjgegnjclmkpeaaDoor
open Go.RowKit Go.Sort Go.Proofs

section
variable {A0 : Option Addr} {b0 o0 c0 : Nat} {l : List Job}
set_option maxHeartbeats 2000000 in
theorem byDlCmp_any (box n : Nat) (w : World) (hn : n = l.length) (hbox : w.cell? ⟨box, 0, none⟩ = some (.slice A0 n c0)) (R : RdJobs w A0 b0 o0 l) (x y : Nat) (hx : x < n) (hy : y < n) :
    Calls Tryd.prog 103 #[.int .i64 x, .int .i64 y, .pointer (some ⟨box, 0, none⟩)] w fun e w' => e = .returned (.int .i64 (cmpI (Rob.jb l x).dl (Rob.jb l y).dl)) ∧ ∃ q, w' = w.drewN q := by
  have mixed : Tryd.prog.follows .mixedOrders = true := by kernel_rfl
  have hxl : x < l.length := by omega
  have hyl : y < l.length := by omega
  have hA := R.addr (by omega)
  subst hA
  obtain ⟨-, -, jx, -, -, -, -, -⟩ := R.row x hxl
  obtain ⟨-, -, jy, -, -, -, -, -⟩ := R.row y hyl
  have hlen := R.len
  have hxz : (x : Int) < (n : Int) := by omega
  have hyz : (y : Int) < (n : Int) := by omega
  clear R
  generalize (Rob.jb l x).dl = vx at *
  generalize (Rob.jb l y).dl = vy at *
  go_enter Tryd.func103, Tryd.ntmps103
  go_wp2_with fail
  go_quiet ((go_at_call 104; exact Calls.quiet_of_same ((compare_any _ _ _).mono (by rintro e w' ⟨rfl, rfl⟩; exact ⟨rfl, rfl⟩))))
  go_wp2
  go_ret
  exact ⟨rfl, nq, rfl⟩
def ltD (l : List Job) {n : Nat} (x y : Fin n) : Bool := decide ((Rob.jb l x.val).dl < (Rob.jb l y.val).dl)
structure CtxD (w : World) (bx : Nat) (A0 : Option Addr) (b0 o0 c0 n : Nat) (l : List Job) (blk : Nat) : Prop where
  hn : n = l.length
  box : w.cell? ⟨bx, 0, none⟩ = some (.slice A0 n c0)
  jobs : RdJobs w A0 b0 o0 l
  nb : bx ≠ blk
  nj : 0 < l.length → b0 ≠ blk
theorem CtxD.grown {w w' : World} {box n blk : Nat} (h : CtxD w box A0 b0 o0 c0 n l blk) (hg : w.grownBy w' (some blk)) : CtxD w' box A0 b0 o0 c0 n l blk :=
  ⟨h.hn, hg.cell h.box (by simpa using h.nb), h.jobs.same hg.size (fun h0 => hg.block b0 (h.jobs.lt h0) (by simpa using h.nj h0)), h.nb, h.nj⟩
theorem ltOf_byDl (n : Nat) : ltOf (fun x y : Fin n => cmpI (Rob.jb l x.val).dl (Rob.jb l y.val).dl) = ltD l := by
  funext x y
  exact decide_eq_decide.2 (cmpI_neg _ _)
theorem insDl_any {B n : Nat} [Inhabited (Fin n)] (box blk cap : Nat) (L : List (Fin n)) (w : World) (C : CtxD w box A0 b0 o0 c0 n l blk) (ho : w.ownsRow B 3 1 (.slice (some ⟨blk, 0, none⟩) L.length cap) L.length (L.map encF)) (hsz : L.length < 1000) :
    Calls Tryd.prog 158 #[.slice (some ⟨blk, 0, none⟩) L.length cap, .int .i64 0, .int .i64 L.length, .func (.func 103) #[] #[.pointer (some ⟨box, 0, none⟩)]] w fun e w' =>
      e = .returned (.tuple #[]) ∧ w'.ownsRow B 3 1 (.slice (some ⟨blk, 0, none⟩) L.length cap) L.length ((isort (ltD l) L).map encF) ∧ w.grownBy w' (some blk) := by
  have eg : ∀ args w, (callFunc 103 args).run Tryd.prog w = .ok (.enter 103 args) w := enters_of Tryd.func103 (by kernel_rfl) rfl
  obtain ⟨g', cap', hv, hb, hlt, hn', hcap, hl, hH⟩ := Lib.holds_of_ownsRow ho (by simp)
  simp only [Value.slice.injEq, Option.some.injEq, Addr.mk.injEq] at hv
  obtain ⟨⟨rfl, -⟩, -, rfl⟩ := hv
  have hcon := Any.insertionSortCmpFunc_one Tryd.laysInsInt encF encF_one (fun x y : Fin n => cmpI (Rob.jb l x.val).dl (Rob.jb l y.val).dl) 103 #[.pointer (some ⟨box, 0, none⟩)] blk 0 cap 0 L.toArray.size L.toArray w eg
    (fun m os dk _ x y => by
      have C2 := C.grown (grown_sortWorld encF w blk 0 m dk os)
      exact byDlCmp_any box n _ C2.hn C2.box C2.jobs x.val y.val x.isLt y.isLt) hH (Nat.zero_le _) (Nat.le_refl _) (by simp; omega)
  rw [ltOf_byDl] at hcon
  refine hcon.mono fun e w' ⟨he, q, hw⟩ => ⟨he, ?_, ?_⟩
  · have hls := insertionSort_list (ltD l) L.toArray
    have hlen : (isort (ltD l) L).length = L.length := (isort_perm (ltD l) L).length_eq
    have ho2 := Lib.ownsRow_putRow (q := q) ho (ys := isort (ltD l) L) hlen (Nat.le_refl _)
    rw [List.take_of_length_le (by omega)] at ho2
    rw [hw]
    have : (Sort.insertionSort (ltD l) L.toArray 0 L.toArray.size) = (isort (ltD l) L).toArray := Array.ext' (by rw [hls])
    rw [this]
    exact ho2
  · rw [hw]
    have := grown_sortWorld encF w blk 0 q (Sort.insertionSort (ltD l) L.toArray 0 L.toArray.size) #[]
    unfold sortWorld at this
    rw [grow_empty] at this
    exact this
theorem all_fins (n : Nat) : ∀ k, k ≤ n → ∃ L : List (Fin n), L.map Fin.val = List.range k := by
  intro k
  induction k with
  | zero => exact fun _ => ⟨[], rfl⟩
  | succ k ih =>
    intro hk
    obtain ⟨L, hL⟩ := ih (by omega)
    exact ⟨L ++ [⟨k, by omega⟩], by rw [List.map_append, hL, List.range_succ]; rfl⟩
theorem sortDl_any {B n : Nat} (box gr : Nat) (w : World) (hn : n = l.length) (hn20 : n < 20) (hbox : w.cell? ⟨box, 0, none⟩ = some (.slice A0 n c0)) (R : RdJobs w A0 b0 o0 l) (nb : box ≠ gr) (nj : 0 < l.length → b0 ≠ gr)
    (ho : w.ownsRow B 3 1 (.slice (some ⟨gr, 0, none⟩) n n) n (ints ((List.range n).map fun i : Nat => (i : Int)))) :
    Calls Tryd.prog 102 #[.slice (some ⟨gr, 0, none⟩) n n, .func (.func 103) #[] #[.pointer (some ⟨box, 0, none⟩)]] w fun e w' =>
      e = .returned (.tuple #[]) ∧ (w'.ownsRow B 3 1 (.slice (some ⟨gr, 0, none⟩) n n) n (ints ((Rob.byDl l).map fun i : Nat => (i : Int))) ∧ w.grownBy w' (some gr)) := by
  rcases Nat.eq_zero_or_pos n with hz | hz
  · subst hz
    refine sortInt_any _ (.slice (some ⟨gr, 0, none⟩) 0 0) 0 ⟨_, _, rfl⟩ w (by omega) _ ((insNil_any _ _ _ w).mono ?_)
    rintro e w' ⟨rfl, rfl⟩
    refine ⟨rfl, ?_, World.grownBy.refl _ _⟩
    have : Rob.byDl l = [] := by unfold Rob.byDl; rw [← hn]; rfl
    rw [this]; exact ho
  · haveI : Inhabited (Fin n) := ⟨⟨0, hz⟩⟩
    obtain ⟨L, hL⟩ := all_fins n n (Nat.le_refl _)
    have hLl : L.length = n := by have := congrArg List.length hL; simpa using this
    have hLv : (L.map fun i => (i.val : Int)) = (List.range n).map fun i : Nat => (i : Int) := by
      rw [← hL, List.map_map]; rfl
    have hsort : ((isort (ltD l) L).map fun i => (i.val : Int)) = (Rob.byDl l).map fun i : Nat => (i : Int) := by
      have h1 := isort_map (ltD l) Fin.val (fun a b => decide ((Rob.jb l a).dl < (Rob.jb l b).dl)) (fun x y => rfl) L
      rw [hL] at h1
      have h2 : Rob.byDl l = isort (fun a b => decide ((Rob.jb l a).dl < (Rob.jb l b).dl)) (List.range n) := by unfold Rob.byDl; rw [hn]
      rw [h2, h1, List.map_map]; rfl
    rw [← hLv, ← ints_fin] at ho
    have hc := insDl_any box gr n L w ⟨hn, hbox, R, nb, nj⟩ (by rw [hLl]; exact ho) (by omega)
    rw [hLl, ints_fin, hsort] at hc
    refine sortInt_any _ (.slice (some ⟨gr, 0, none⟩) n n) n ⟨_, _, rfl⟩ w (by omega) _ ?_
    exact hc
/-- A row of places, and its first k turned to 0, 1 ... -/
theorem upto_set (n k : Nat) (hk : k < n) : ((List.range k).map (fun i : Nat => (i : Int)) ++ List.replicate (n - k) 0).set k k = (List.range (k + 1)).map (fun i : Nat => (i : Int)) ++ List.replicate (n - (k + 1)) 0 := by
  rw [List.set_append_right _ _ (by simp)]
  simp only [List.length_map, List.length_range, Nat.sub_self]
  rw [show n - k = (n - (k + 1)) + 1 by omega, List.replicate_succ, List.set_cons_zero, List.range_succ, List.map_append, List.append_assoc]
  rfl
set_option maxHeartbeats 2000000 in
theorem byDl_any (w : World) (R : RdJobs w A0 b0 o0 l) (hl20 : l.length < 20) :
    Calls Tryd.prog 64 #[.slice A0 l.length c0] w fun e w' => Below w.heap.size w w' ∧ ∃ g, w.heap.size ≤ g ∧ e = .returned (.slice (some ⟨g, 0, none⟩) l.length l.length) ∧
      w'.ownsRow w.heap.size 3 1 (.slice (some ⟨g, 0, none⟩) l.length l.length) l.length (ints ((Rob.byDl l).map fun i : Nat => (i : Int))) := by
  have hn := R.len
  obtain ⟨n, hn'⟩ : ∃ n, n = l.length := ⟨_, rfl⟩
  have HN := hide hn'
  have hmk := made_int n (by omega)
  have HR : Aside0 _ := ⟨R⟩
  rw [← hn'] at hn hl20 ⊢
  clear hn' R
  go_enter Tryd.func64, Tryd.ntmps64
  go_wp2
  obtain ⟨W1, hW1⟩ : ∃ W1, W1 = w.alloc (.cells #[.slice A0 n c0] 22 (0, 0)) := ⟨_, rfl⟩
  have hb1 : Below w.heap.size w W1 := by rw [hW1]; exact below_alloc (Below.refl _ w) _
  have hs1 : W1.heap.size = w.heap.size + 1 := by rw [hW1]; simp
  have hbox : W1.cell? ⟨w.heap.size, 0, none⟩ = some (.slice A0 n c0) := by rw [hW1]; simp
  have ho0 := own_madeI W1 W1.heap.size n (Nat.le_refl _) (by omega)
  have hb2 := below_alloc (Below.refl _ W1) (Z1 n)
  have ho1 : (W1.alloc (Z1 n)).ownsRow W1.heap.size 3 1 (.slice (some ⟨w.heap.size + 1, 0, none⟩) n n) n (ints (List.replicate n 0)) := by rw [← hs1]; exact ho0
  rw [← hW1]
  change Code.wp _ _ _ _ (W1.alloc (Z1 n))
  have HO1 : Aside0 _ := ⟨ho1⟩
  have HB2 : Aside0 _ := ⟨hb2⟩
  have HB1 : Aside0 _ := ⟨hb1⟩
  have HBOX : Aside0 _ := ⟨hbox⟩
  clear ho0 ho1 hb2 hW1 hmk hbox hb1
  go_loopw [4, 10] (fun _ q wr => ∃ k : Nat, k ≤ n ∧ q = .int .i64 k ∧ Aside0 (wr.ownsRow W1.heap.size 3 1 (.slice (some ⟨w.heap.size + 1, 0, none⟩) n n) n (ints ((List.range k).map (fun i : Nat => (i : Int)) ++ List.replicate (n - k) 0))) ∧ Aside0 (Below W1.heap.size W1 wr)) (fun _ q _ => n - (intOf q).toNat)
  case atStart => exact ⟨0, by omega, rfl, HO1, HB2⟩
  case round =>
    obtain ⟨k, hk, rfl, HO, HB⟩ := hrel
    by_cases hlt : k < n
    · have hc := own_int HO.out k hlt
      have hf := HO.out.frozenAt k
      have hst := (HO.out.stored k (.int .i64 k)).1
      rw [ints_set, upto_set n k hlt] at hst
      have hbs := HB.out.setCell (p := ⟨w.heap.size + 1, k, none⟩) (by show W1.heap.size ≤ w.heap.size + 1; omega) (.int .i64 k)
      have HST : Aside0 _ := ⟨hst⟩
      have HBS : Aside0 _ := ⟨hbs⟩
      clear hst hbs
      generalize List.getD _ k 0 = z at hc
      go_wp2
      go_roundw
      case rel => exact ⟨k + 1, by omega, by go_num, HST, HBS⟩
      case measure => simp [intOf]; omega
    · obtain rfl : k = n := by omega
      have ho := HO.out
      rw [Nat.sub_self, List.replicate_zero, List.append_nil] at ho
      have hbx := (HB.out.cell (p := ⟨w.heap.size, 0, none⟩) (by show w.heap.size < _; omega)).trans HBOX.out
      have hRw := HR.out.below (below_then HB1.out HB.out)
      have hs := sortDl_any w.heap.size (w.heap.size + 1) wr HN.out hl20 hbx hRw (by omega) (fun h0 => by have := HR.out.lt h0; omega) ho
      have HS : Aside0 _ := ⟨hs⟩
      clear hs ho hbx hRw
      go_wp2_with (go_at_call 102; refine HS.out.mono ?_; rintro e w5 ⟨rfl, ho5, hg5⟩)
      have hb5 := below_own_grown HB.out HO.out (by rw [show (Value.slice (some ⟨w.heap.size + 1, 0, none⟩) k k).ownBlock = some (w.heap.size + 1) from rfl]; exact hg5)
      go_ret
      exact ⟨below_then HB1.out hb5, w.heap.size + 1, by omega, rfl, Joins.ownsRow_le ho5 (by omega)⟩
end
end Go.Proofs.YtjgegnjclmkpeaaDoor
