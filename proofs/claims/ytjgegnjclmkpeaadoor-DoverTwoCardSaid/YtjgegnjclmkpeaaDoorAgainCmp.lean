/- The robust runner: how those set aside are sorted. -/
import Derived.Test.YtjgegnjclmkpeaaDoorArrive
import Derived.Test.YtjgegnjclmkpeaaDoorShelf
import Derived.Lib.OwnBridge
import Derived.Shelf.SlSortCmp.Insertion
set_option linter.unusedVariables false
set_option linter.unusedSimpArgs false
namespace Go.Proofs.YtjgegnjclmkpeaaDoor
open Go.RowKit Go.Sort Go.Proofs

section
variable {w0 w : World} {g : Nat} {A0 : Option Addr} {b0 o0 c0 : Nat} {l : List Job} {v : RV} {t : Int} {s : RS}
set_option maxHeartbeats 2000000 in
theorem againCmp_any (box n : Nat) (w : World) (hn : n = l.length) (hbox : w.cell? ⟨box, 0, none⟩ = some (.pointer (some ⟨g, 0, none⟩))) (h0 : w.cell? ⟨g, 0, none⟩ = some (.slice A0 n c0)) (R : RdJobs w A0 b0 o0 l) (x y : Nat) (hx : x < n) (hy : y < n) :
    Calls Tryd.prog 132 #[.int .i64 x, .int .i64 y, .pointer (some ⟨box, 0, none⟩)] w fun e w' => e = .returned (.int .i64 (cmpI (Rob.jb l y).val (Rob.jb l x).val)) ∧ ∃ q, w' = w.drewN q := by
  have mixed : Tryd.prog.follows .mixedOrders = true := by kernel_rfl
  have hxl : x < l.length := by omega
  have hyl : y < l.length := by omega
  have hA := R.addr (by omega)
  subst hA
  obtain ⟨-, -, -, -, -, jx, -, -⟩ := R.row x hxl
  obtain ⟨-, -, -, -, -, jy, -, -⟩ := R.row y hyl
  have hlen := R.len
  have hxz : (x : Int) < (n : Int) := by omega
  have hyz : (y : Int) < (n : Int) := by omega
  clear R
  generalize (Rob.jb l x).val = vx at *
  generalize (Rob.jb l y).val = vy at *
  go_enter Tryd.func132, Tryd.ntmps132
  go_wp2_with fail
  go_quiet ((go_at_call 104; exact Calls.quiet_of_same ((compare_any _ _ _).mono (by rintro e w' ⟨rfl, rfl⟩; exact ⟨rfl, rfl⟩))))
  go_wp2
  go_ret
  exact ⟨rfl, nq, rfl⟩
def encF {n : Nat} (i : Fin n) : Value := .int .i64 (i.val : Int)
theorem encF_one {n : Nat} : OneCell (encF (n := n)) := fun _ => rfl
def ltF (l : List Job) {n : Nat} (x y : Fin n) : Bool := decide ((Rob.jb l y.val).val < (Rob.jb l x.val).val)
/-- What the closure takes of a world. -/
structure Ctx (w : World) (bx g : Nat) (A0 : Option Addr) (b0 o0 c0 n : Nat) (l : List Job) (blk : Nat) : Prop where
  hn : n = l.length
  box : w.cell? ⟨bx, 0, none⟩ = some (.pointer (some ⟨g, 0, none⟩))
  g0 : w.cell? ⟨g, 0, none⟩ = some (.slice A0 n c0)
  jobs : RdJobs w A0 b0 o0 l
  nb : bx ≠ blk
  ng : g ≠ blk
  nj : 0 < l.length → b0 ≠ blk
theorem Ctx.grown {w w' : World} {box n blk : Nat} (h : Ctx w box g A0 b0 o0 c0 n l blk) (hg : w.grownBy w' (some blk)) : Ctx w' box g A0 b0 o0 c0 n l blk :=
  ⟨h.hn, hg.cell h.box (by simpa using h.nb), hg.cell h.g0 (by simpa using h.ng), h.jobs.same hg.size (fun h0 => hg.block b0 (h.jobs.lt h0) (by simpa using h.nj h0)), h.nb, h.ng, h.nj⟩
theorem ltOf_again (n : Nat) : ltOf (fun x y : Fin n => cmpI (Rob.jb l y.val).val (Rob.jb l x.val).val) = ltF l := by
  funext x y
  exact decide_eq_decide.2 (cmpI_neg _ _)
theorem insInt_any {B n : Nat} [Inhabited (Fin n)] (box blk cap : Nat) (L : List (Fin n)) (w : World) (C : Ctx w box g A0 b0 o0 c0 n l blk) (ho : w.ownsRow B 3 1 (.slice (some ⟨blk, 0, none⟩) L.length cap) L.length (L.map encF)) (hsz : L.length < 1000) :
    Calls Tryd.prog 158 #[.slice (some ⟨blk, 0, none⟩) L.length cap, .int .i64 0, .int .i64 L.length, .func (.func 132) #[] #[.pointer (some ⟨box, 0, none⟩)]] w fun e w' =>
      e = .returned (.tuple #[]) ∧ w'.ownsRow B 3 1 (.slice (some ⟨blk, 0, none⟩) L.length cap) L.length ((isort (ltF l) L).map encF) ∧ w.grownBy w' (some blk) := by
  have eg : ∀ args w, (callFunc 132 args).run Tryd.prog w = .ok (.enter 132 args) w := enters_of Tryd.func132 (by kernel_rfl) rfl
  obtain ⟨g', cap', hv, hb, hlt, hn', hcap, hl, hH⟩ := Lib.holds_of_ownsRow ho (by simp)
  simp only [Value.slice.injEq, Option.some.injEq, Addr.mk.injEq] at hv
  obtain ⟨⟨rfl, -⟩, -, rfl⟩ := hv
  have hcon := Any.insertionSortCmpFunc_one Tryd.laysInsInt encF encF_one (fun x y : Fin n => cmpI (Rob.jb l y.val).val (Rob.jb l x.val).val) 132 #[.pointer (some ⟨box, 0, none⟩)] blk 0 cap 0 L.toArray.size L.toArray w eg
    (fun m os dk _ x y => by
      have C2 := C.grown (grown_sortWorld encF w blk 0 m dk os)
      exact againCmp_any box n _ C2.hn C2.box C2.g0 C2.jobs x.val y.val x.isLt y.isLt) hH (Nat.zero_le _) (Nat.le_refl _) (by simp; omega)
  rw [ltOf_again] at hcon
  refine hcon.mono fun e w' ⟨he, q, hw⟩ => ⟨he, ?_, ?_⟩
  · have hls := insertionSort_list (ltF l) L.toArray
    have hlen : (isort (ltF l) L).length = L.length := (isort_perm (ltF l) L).length_eq
    have ho2 := Lib.ownsRow_putRow (q := q) ho (ys := isort (ltF l) L) hlen (Nat.le_refl _)
    rw [List.take_of_length_le (by omega)] at ho2
    rw [hw]
    have : (Sort.insertionSort (ltF l) L.toArray 0 L.toArray.size) = (isort (ltF l) L).toArray := Array.ext' (by rw [hls])
    rw [this]
    exact ho2
  · rw [hw]
    have := grown_sortWorld encF w blk 0 q (Sort.insertionSort (ltF l) L.toArray 0 L.toArray.size) #[]
    unfold sortWorld at this
    rw [grow_empty] at this
    exact this
abbrev againF (box : Nat) : Value := .func (.func 132) #[] #[.pointer (some ⟨box, 0, none⟩)]
theorem insNil_any (f : Value) (A : Option Addr) (c : Nat) (w : World) :
    Calls Tryd.prog 158 #[.slice A 0 c, .int .i64 0, .int .i64 0, f] w fun e w' => e = .returned (.tuple #[]) ∧ w = w' := by
  go_enter Tryd.func158, Tryd.ntmps158
  go_wp2_with fail
  go_loopw [8] (fun a wr => a = .int .i64 1 ∧ w = wr) (fun _ _ => 0)
  case atStart => exact ⟨rfl, rfl⟩
  case round =>
    obtain ⟨rfl, rfl⟩ := hrel
    go_wp2
    go_end0
    exact ⟨rfl, rfl⟩
theorem stableInt_any (f : Value) (S : Value) (n : Nat) (hS : ∃ A c, S = .slice A n c) (w : World) (hsz : n < 20) (Q : World → Prop) (hC0 : Calls Tryd.prog 158 #[S, .int .i64 0, .int .i64 n, f] w fun e w' => e = .returned (.tuple #[]) ∧ Q w') :
    Calls Tryd.prog 133 #[S, .int .i64 n, f] w fun e w' => e = .returned (.tuple #[]) ∧ Q w' := by
  have hC : Aside0 _ := ⟨hC0⟩
  clear hC0
  obtain ⟨A, c, rfl⟩ := hS
  go_enter Tryd.func133, Tryd.ntmps133
  go_wp2_with fail
  go_loopw [7, 8] (fun a b wr => a = .int .i64 0 ∧ b = .int .i64 20 ∧ w = wr) (fun _ _ _ => 0)
  case atStart => exact ⟨rfl, rfl, rfl⟩
  case round =>
    obtain ⟨rfl, rfl, rfl⟩ := hrel
    go_wp2_with (go_at_call 158; refine hC.out.mono ?_; rintro e w1 ⟨rfl, hq1⟩)
    have HQ : Aside0 _ := ⟨hq1⟩
    clear hq1
    go_loopw [6, 7, 8, 9] (fun a _ _ _ wr => a = .int .i64 20 ∧ w1 = wr) (fun _ _ _ _ _ => 0)
    case atStart => exact ⟨rfl, rfl⟩
    case round =>
      obtain ⟨rfl, rfl⟩ := hrel
      go_wp2
      go_end0
      exact ⟨rfl, HQ.out⟩
theorem sortInt_any (f : Value) (S : Value) (n : Nat) (hS : ∃ A c, S = .slice A n c) (w : World) (hsz : n < 20) (Q : World → Prop) (hC0 : Calls Tryd.prog 158 #[S, .int .i64 0, .int .i64 n, f] w fun e w' => e = .returned (.tuple #[]) ∧ Q w') :
    Calls Tryd.prog 102 #[S, f] w fun e w' => e = .returned (.tuple #[]) ∧ Q w' := by
  have hC : Aside0 _ := ⟨stableInt_any f S n hS w hsz Q hC0⟩
  clear hC0
  obtain ⟨A, c, rfl⟩ := hS
  go_enter Tryd.func102, Tryd.ntmps102
  go_wp2_with (go_at_call 133; refine hC.out.mono ?_; rintro e w1 ⟨rfl, hq1⟩)
  go_end0
  exact ⟨rfl, hq1⟩
end
end Go.Proofs.YtjgegnjclmkpeaaDoor
