/- slices.Clone at jobs. -/
import Derived.Test.YtjgegnjclmkpeaaDoorRun
set_option linter.unusedVariables false
set_option linter.unusedSimpArgs false
namespace Go.Proofs.YtjgegnjclmkpeaaDoor
open Go.RowKit Go.Sort Go.Proofs

def encJ (j : Job) : List Value := [.string j.name, .int .i64 j.rel, .int .i64 j.dl, .int .i64 j.bud, .int .i64 j.act, .int .i64 j.val, .int .i64 j.cln, .bool j.hard]
def flatJ (l : List Job) : List Value := l.flatMap encJ
theorem flatJ_length (l : List Job) : (flatJ l).length = l.length * 8 := by
  induction l with
  | nil => rfl
  | cons x l ih =>
    rw [flatJ, List.flatMap_cons, List.length_append, ← flatJ, ih, List.length_cons]
    simp [encJ]; omega
theorem flatJ_at (l : List Job) (i o : Nat) (h : i < l.length) (ho : o < 8) : (flatJ l)[i * 8 + o]? = (encJ (Rob.jb l i))[o]? := by
  induction l generalizing i with
  | nil => simp at h
  | cons p r ih =>
    rw [flatJ, List.flatMap_cons, ← flatJ]
    cases i with
    | zero =>
      rw [List.getElem?_append_left (by simp [encJ]; omega)]
      simp [Rob.jb]
    | succ i =>
      rw [List.getElem?_append_right (by simp [encJ]; omega)]
      have := ih i (by simpa using h)
      rw [show (i + 1) * 8 + o - (encJ p).length = i * 8 + o by simp [encJ]; omega, this]
      simp [Rob.jb]
theorem flatJ_cells (l : List Job) : ∀ v ∈ flatJ l, v.oneCell' = true := by
  intro v hv
  simp only [flatJ, List.mem_flatMap, encJ] at hv
  obtain ⟨x, _, hx⟩ := hv
  simp at hx
  rcases hx with rfl | rfl | rfl | rfl | rfl | rfl | rfl | rfl <;> rfl
theorem row_cell {w : World} {b o : Nat} {j : Job} (h : Row w b o j) (q : Nat) (hq : q < 8) : w.cell? ⟨b, o + q, none⟩ = (encJ j)[q]? := by
  rcases (by omega : q = 0 ∨ q = 1 ∨ q = 2 ∨ q = 3 ∨ q = 4 ∨ q = 5 ∨ q = 6 ∨ q = 7) with rfl | rfl | rfl | rfl | rfl | rfl | rfl | rfl
  · exact h.c0
  · exact h.c1
  · exact h.c2
  · exact h.c3
  · exact h.c4
  · exact h.c5
  · exact h.c6
  · exact h.c7
theorem row_of {w : World} {b o : Nat} {j : Job} (h : ∀ q, q < 8 → w.cell? ⟨b, o + q, none⟩ = (encJ j)[q]?) : Row w b o j :=
  ⟨h 0 (by omega), h 1 (by omega), h 2 (by omega), h 3 (by omega), h 4 (by omega), h 5 (by omega), h 6 (by omega), h 7 (by omega)⟩
def CloneIs (l : List Job) (w : World) (e : Ending) (w' : World) : Prop :=
  ∃ A' b' c', e = .returned (.slice A' l.length c') ∧ Below w.heap.size w w' ∧ RdJobs w' A' b' 0 l ∧ (0 < l.length → ∃ cs fz, w'.heap[b']? = some (.cells cs 39 fz))
theorem run_eql_nil (w : World) (a : Option Addr) (n c : Nat) : (binOp .eql 22 (.slice a n c) (.slice none 0 0)).run Tryd.prog w = .ok (.bool a.isNone) w := Lib.run_eql_slice_nil w _ _ a n c 0 0 Tryd.underlying22
theorem clone0_any (A : Option Addr) (c : Nat) (w : World) :
    Calls Tryd.prog 51 #[.slice A 0 c] w fun e w' => ∃ A' c', e = .returned (.slice A' 0 c') ∧ Below w.heap.size w w' := by
  have hq := run_eql_nil w A 0 c
  cases A with
  | none =>
    have hq2 : (binOp .eql 22 (.slice none 0 c) (.slice none 0 0)).run Tryd.prog w = .ok (.bool true) w := hq
    clear hq
    go_enter Tryd.func51, Tryd.ntmps51
    go_wp2
    go_ret
    exact ⟨_, _, rfl, Below.refl _ _⟩
  | some a =>
    have hq2 : (binOp .eql 22 (.slice (some a) 0 c) (.slice none 0 0)).run Tryd.prog w = .ok (.bool false) w := hq
    clear hq
    go_enter Tryd.func51, Tryd.ntmps51
    go_wp2
    go_ret
    exact ⟨_, _, rfl, by repeat (first | exact Below.refl _ _ | apply below_alloc)⟩
theorem cloneJob_any (A : Option Addr) (b off c : Nat) (l : List Job) (w : World) (R : RdJobs w A b off l) (hlen : l.length ≤ 200) :
    Calls Tryd.prog 51 #[.slice A l.length c] w (CloneIs l w) := by
  rcases Nat.eq_zero_or_pos l.length with hl | hpos
  · rw [hl]
    refine (clone0_any A c w).mono ?_
    rintro e w' ⟨A', c', rfl, hb⟩
    exact ⟨A', 0, c', by rw [hl], hb, ⟨R.len, R.names, fun h => by omega, fun h => by omega, fun i h => by omega⟩, fun h => by omega⟩
  · have hA := R.addr hpos
    subst hA
    obtain ⟨i0, hi, hzz⟩ := Option.map_eq_some_iff.1 (show (Tryd.prog.info? 39).map (fun i => (i.zero, i.size, i.bytes)) = some (some (.agg #[.string ⟨#[]⟩, .int .i64 0, .int .i64 0, .int .i64 0, .int .i64 0, .int .i64 0, .int .i64 0, .bool false]), 8, 72) by kernel_rfl)
    simp only [Prod.mk.injEq] at hzz
    obtain ⟨hz0, hz1, hz2⟩ := hzz
    refine (AnyE.slices_Clone Tryd.laysCloneJob i0 _ 8 72 hi hz0 hz1 hz2 rfl (by omega) Tryd.sizeOf39 b off l.length c (flatJ l) w (flatJ_length l) (by unfold maxLen; omega) (by omega)
        (fun j u hu => by
          have hj : j < (flatJ l).length := (List.getElem?_eq_some_iff.1 hu).1
          rw [flatJ_length] at hj
          have e : j = j / 8 * 8 + j % 8 := by omega
          rw [e] at hu ⊢
          rw [flatJ_at l _ _ (by omega) (by omega)] at hu
          rw [← Nat.add_assoc, row_cell (R.row (j / 8) (by omega)) _ (by omega)]
          exact hu) (flatJ_cells l)).mono ?_
    rintro e w' ⟨v', rfl, ho, hne, hb⟩
    rcases Joins.ownsRow_forms ho with ⟨rfl, -⟩ | ⟨g, cap, rfl⟩
    · exact absurd rfl hne
    · refine ⟨some ⟨g, 0, none⟩, g, cap, rfl, hb, ⟨R.len, R.names, fun _ => rfl, fun _ => own_size ho rfl, fun i hi => row_of (fun q hq => ?_)⟩, fun _ => ?_⟩
      · rw [Nat.zero_add, ho.cellAt _ (by omega), flatJ_at l i q hi hq]
      · obtain ⟨cur, h⟩ := own_type ho (g := g) rfl
        exact ⟨cur, _, h⟩
end Go.Proofs.YtjgegnjclmkpeaaDoor
