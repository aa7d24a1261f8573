/- Package slices: SortStableFunc of fewer than twenty elements, at what is left of jobs. -/
import Derived.Test.YtjgegnjclmkpeaaDoorEdfWalk
import Derived.Test.YtjgegnjclmkpeaaDoorIsort
import Derived.Shelf.SlSortFuncK.SWK
set_option linter.unusedVariables false
set_option linter.unusedSimpArgs false
namespace Go.Proofs.YtjgegnjclmkpeaaDoor
open Go.RowKit Go.Sort Go.Proofs

theorem grown_sortWorld {α : Type} [Inhabited α] (enc : α → Value) (w : World) (blk off m : Nat) (dk : Array α) (os : Array Obj) : w.grownBy (sortWorld enc w blk off m dk os) (some blk) := by
  refine ⟨rfl, rfl, rfl, ?_, fun k hk hne => ?_⟩
  · unfold sortWorld
    rw [size_grow]
    have : (putRow enc (Sort.ahead w m) blk off dk).heap.size = w.heap.size := by rw [Go.Proofs.size_putRow]; rfl
    omega
  · unfold sortWorld
    rw [heap_grow_old _ _ (by rw [Go.Proofs.size_putRow]; exact hk)]
    show ((Sort.ahead w m).heap.modify blk _)[k]? = _
    rw [Array.getElem?_modify, if_neg (fun h => hne (by rw [h]))]
    rfl
def encL (x : Left) : List Value := [.int .i64 x.dl, .int .i64 x.need]
theorem encL_cells (x : Left) : ∀ v ∈ encL x, v.oneCell' = true := by
  intro v hv
  simp [encL] at hv
  rcases hv with rfl | rfl <;> rfl
theorem slackCmp (x y : Left) (W : World) : Calls Tryd.prog 183 #[.agg #[.int .i64 x.dl, .int .i64 x.need], .agg #[.int .i64 y.dl, .int .i64 y.need]] W fun e w' => e = .returned (.int .i64 (cmpI x.dl y.dl)) ∧ ∃ q os', w' = grow (W.drewN q) os' := by
  go_enter Tryd.func183, Tryd.ntmps183
  go_wp2_with (go_at_call 104; refine (compare_any _ _ _).mono ?_; rintro e w' ⟨rfl, rfl⟩)
  go_ret
  exact ⟨rfl, 0, _, by rw [alloc_eq_grow, alloc_eq_grow, grow_grow]; rfl⟩
def ltL (x y : Left) : Bool := decide (x.dl < y.dl)
theorem cmpI_neg (a b : Int) : cmpI a b < 0 ↔ a < b := by
  unfold cmpI
  split
  · omega
  · split <;> omega
theorem ltOf_slack : ltOf (fun x y : Left => cmpI x.dl y.dl) = ltL := by
  funext x y
  exact decide_eq_decide.2 (cmpI_neg x.dl y.dl)
theorem swo_ltL : SWO ltL := by
  constructor <;> simp only [ltL, decide_eq_true_eq, decide_eq_false_iff_not] <;> intros <;> omega
/-- The row as the call finds it; as it leaves it. -/
theorem insLeft_any (blk cap : Nat) (d : Array Left) (w : World) (hH : HoldsK encL 2 w blk 0 d) (hblk : blk < w.heap.size) (hsz : d.size < 1000) :
    Calls Tryd.prog 200 #[.slice (some ⟨blk, 0, none⟩) d.size cap, .int .i64 0, .int .i64 d.size, .func (.func 183) #[] #[]] w fun e w' =>
      e = .returned (.tuple #[]) ∧ HoldsK encL 2 w' blk 0 (Sort.insertionSort ltL d 0 d.size) ∧ w.grownBy w' (some blk) := by
  have eg : ∀ args w, (callFunc 183 args).run Tryd.prog w = .ok (.enter 183 args) w := enters_of Tryd.func183 (by kernel_rfl) rfl
  have hcon := AnyQ.insertionSortCmpFunc Tryd.laysInsLeft 2 Tryd.isAgg173 Tryd.sizeOf173 encL (fun _ => rfl) encL_cells (fun x y => cmpI x.dl y.dl) 183 #[] blk 0 cap 0 d.size d w eg
    (fun m os dk _ x y => slackCmp x y _) hH hblk (Nat.zero_le _) (Nat.le_refl _) (by omega)
  rw [ltOf_slack] at hcon
  refine hcon.mono fun e w' ⟨he, n, os, hw⟩ => ⟨he, ?_, by rw [hw]; exact grown_sortWorld _ _ _ _ _ _ _⟩
  exact SWK.holds ⟨n, os, hw⟩ hblk hH (by
    have := congrArg List.length (insertionSort_list ltL d)
    rw [(isort_perm ltL d.toList).length_eq] at this
    simpa using this)
theorem stableLeft_any (blk cap : Nat) (d : Array Left) (w : World) (hH : HoldsK encL 2 w blk 0 d) (hblk : blk < w.heap.size) (hsz : d.size < 20) :
    Calls Tryd.prog 196 #[.slice (some ⟨blk, 0, none⟩) d.size cap, .int .i64 d.size, .func (.func 183) #[] #[]] w fun e w' =>
      e = .returned (.tuple #[]) ∧ HoldsK encL 2 w' blk 0 (Sort.insertionSort ltL d 0 d.size) ∧ w.grownBy w' (some blk) := by
  have hC : Aside0 _ := ⟨insLeft_any blk cap d w hH hblk (by omega)⟩
  clear hH
  generalize Sort.insertionSort ltL d 0 d.size = r at hC ⊢
  generalize d.size = n at *
  go_enter Tryd.func196, Tryd.ntmps196
  go_wp2_with fail
  go_loopw [7, 8] (fun a b wr => a = .int .i64 0 ∧ b = .int .i64 20 ∧ w = wr) (fun _ _ _ => 0)
  case atStart => exact ⟨rfl, rfl, rfl⟩
  case round =>
    obtain ⟨rfl, rfl, rfl⟩ := hrel
    go_wp2_with (go_at_call 200; refine hC.out.mono ?_; rintro e w1 ⟨rfl, hh1, hg1⟩)
    have HH1 : Aside0 _ := ⟨hh1⟩
    have HG1 : Aside0 _ := ⟨hg1⟩
    clear hh1 hg1
    go_loopw [6, 7, 8, 9] (fun a _ _ _ wr => a = .int .i64 20 ∧ w1 = wr) (fun _ _ _ _ _ => 0)
    case atStart => exact ⟨rfl, rfl⟩
    case round =>
      obtain ⟨rfl, rfl⟩ := hrel
      go_wp2
      go_end0
      exact ⟨rfl, HH1.out, HG1.out⟩
theorem sortLeft_any (blk cap : Nat) (d : Array Left) (w : World) (hH : HoldsK encL 2 w blk 0 d) (hblk : blk < w.heap.size) (hsz : d.size < 20) :
    Calls Tryd.prog 182 #[.slice (some ⟨blk, 0, none⟩) d.size cap, .func (.func 183) #[] #[]] w fun e w' =>
      e = .returned (.tuple #[]) ∧ HoldsK encL 2 w' blk 0 (Sort.insertionSort ltL d 0 d.size) ∧ w.grownBy w' (some blk) := by
  have hC : Aside0 _ := ⟨stableLeft_any blk cap d w hH hblk hsz⟩
  clear hH
  generalize Sort.insertionSort ltL d 0 d.size = r at hC ⊢
  generalize d.size = n at *
  go_enter Tryd.func182, Tryd.ntmps182
  go_wp2_with (go_at_call 196; refine hC.out.mono ?_; rintro e w1 ⟨rfl, hh1, hg1⟩)
  go_end0
  exact ⟨rfl, hh1, hg1⟩
end Go.Proofs.YtjgegnjclmkpeaaDoor
