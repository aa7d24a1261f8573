/- Packages cmp, edf: the walks of Compare, may. -/
import Derived.Test.YtjgegnjclmkpeaaDoorRobAt
set_option linter.unusedVariables false
set_option linter.unusedSimpArgs false
namespace Go.Proofs.YtjgegnjclmkpeaaDoor
open Go.RowKit

/-! ### cmp.Compare -/
def cmpI (a b : Int) : Int := if a < b then -1 else if b < a then 1 else 0
theorem isNaN_any (a : Int) (w : World) : Calls Tryd.prog 134 #[.int .i64 a] w fun e w' => e = .returned (.bool false) ∧ w = w' := by
  have h : (a != a) = false := by simp
  go_enter Tryd.func134, Tryd.ntmps134
  go_wp2
  go_ret
  exact ⟨by first | rfl | (rw [h]; rfl), rfl⟩
theorem compare_any (a b : Int) (w : World) : Calls Tryd.prog 104 #[.int .i64 a, .int .i64 b] w fun e w' => e = .returned (.int .i64 (cmpI a b)) ∧ w = w' := by
  by_cases h1 : a < b
  · go_enter Tryd.func104, Tryd.ntmps104
    go_wp2_with (go_at_call 134; refine (isNaN_any _ _).mono ?_; rintro e w' ⟨rfl, rfl⟩)
    go_ret
    exact ⟨ret_int (by simp [cmpI, h1]), rfl⟩
  · by_cases h2 : b < a
    · go_enter Tryd.func104, Tryd.ntmps104
      go_wp2_with (go_at_call 134; refine (isNaN_any _ _).mono ?_; rintro e w' ⟨rfl, rfl⟩)
      go_ret
      exact ⟨ret_int (by unfold cmpI; rw [if_neg (by omega), if_pos h2]), rfl⟩
    · go_enter Tryd.func104, Tryd.ntmps104
      go_wp2_with (go_at_call 134; refine (isNaN_any _ _).mono ?_; rintro e w' ⟨rfl, rfl⟩)
      go_ret
      exact ⟨ret_int (by unfold cmpI; rw [if_neg (by omega), if_neg (by omega)]), rfl⟩

/-! ### edf.may -/
theorem edfIn_any (n : Int) (w : World) : Calls Tryd.prog 184 #[.int .i64 n] w fun e w' => e = .returned (.bool (inLeft n)) ∧ w = w' := by
  by_cases h1 : -1000000 ≤ n
  · by_cases h2 : n ≤ 1000000
    all_goals
      go_enter Tryd.func184, Tryd.ntmps184
      go_wp2
      go_ret
      exact ⟨ret_bool (by simp [inLeft]; omega), rfl⟩
  · go_enter Tryd.func184, Tryd.ntmps184
    go_wp2
    go_ret
    exact ⟨ret_bool (by simp [inLeft]; omega), rfl⟩
def leftOk (x : Left) : Bool := inLeft x.dl && inLeft x.need
theorem leftBad_any (d n : Int) (w : World) : Calls Tryd.prog 186 #[.agg #[.int .i64 d, .int .i64 n]] w fun e w' => e = .returned (.bool (!(leftOk ⟨d, n⟩))) ∧ Below w.heap.size w w' := by
  have hb0 := (Below.refl w.heap.size w).alloc (Nat.le_refl _) (.cells #[.int .i64 d, .int .i64 n] 173)
  cases h1 : inLeft d with
  | true =>
    go_enter Tryd.func186, Tryd.ntmps186
    go_wp2_with (go_at_call 184; refine (edfIn_any _ _).mono ?_; rintro e w' ⟨rfl, rfl⟩)
    go_ret
    exact ⟨ret_bool (by simp [leftOk, h1]), hb0⟩
  | false =>
    go_enter Tryd.func186, Tryd.ntmps186
    go_wp2_with (go_at_call 184; refine (edfIn_any _ _).mono ?_; rintro e w' ⟨rfl, rfl⟩)
    go_ret
    exact ⟨ret_bool (by simp [leftOk, h1]), hb0⟩
/-- A slice that reads as what is left of jobs. -/
structure RdLefts (w : World) (A : Option Addr) (b off : Nat) (l : List Left) : Prop where
  len : l.length ≤ 140737488351232
  addr : 0 < l.length → A = some ⟨b, off, none⟩
  lt : 0 < l.length → b < w.heap.size
  c0 : ∀ i, i < l.length → w.cell? ⟨b, off + i * 2, none⟩ = some (.int .i64 (l.getD i default).dl)
  c1 : ∀ i, i < l.length → w.cell? ⟨b, off + i * 2 + 1, none⟩ = some (.int .i64 (l.getD i default).need)
theorem RdLefts.below {w w' : World} {A : Option Addr} {b off : Nat} {l : List Left} (h : RdLefts w A b off l) (hb : Below w.heap.size w w') : RdLefts w' A b off l :=
  ⟨h.len, h.addr, fun h0 => Nat.lt_of_lt_of_le (h.lt h0) hb.size, fun i hi => (hb.cell (p := ⟨b, off + i * 2, none⟩) (h.lt (by omega))).trans (h.c0 i hi), fun i hi => (hb.cell (p := ⟨b, off + i * 2 + 1, none⟩) (h.lt (by omega))).trans (h.c1 i hi)⟩
theorem all_take_succ {α : Type} [Inhabited α] (l : List α) (p : α → Bool) (k : Nat) (h : k < l.length) : (l.take (k + 1)).all p = ((l.take k).all p && p (l.getD k default)) := by
  rw [List.take_succ_eq_append_getElem h, List.all_append]
  simp [List.getD_eq_getElem?_getD, List.getElem?_eq_getElem h]
def IdxBadL (l : List Left) (w : World) (e : Ending) (w' : World) : Prop := ∃ r : Int, e = .returned (.int .i64 r) ∧ decide (0 ≤ r) = !(l.all leftOk) ∧ Below w.heap.size w w'
set_option maxHeartbeats 1000000 in
theorem indexBadL_any (A : Option Addr) (b off c : Nat) (l : List Left) (w : World) (R : RdLefts w A b off l) :
    Calls Tryd.prog 197 #[.slice A l.length c, .func (.func 186) #[] #[]] w (IdxBadL l w) := by
  have hn := R.len
  obtain ⟨n, hn'⟩ : ∃ n, n = l.length := ⟨_, rfl⟩
  have HN := hide hn'
  rw [← hn'] at hn ⊢
  clear hn'
  go_enter Tryd.func197, Tryd.ntmps197
  go_wp2
  go_loopw [5, 8] (fun _ i wr => ∃ k : Nat, k ≤ n ∧ i = .int .i64 k ∧ Below w.heap.size w wr ∧ Hid ((l.take k).all leftOk = true)) (fun _ i _ => n - (intOf i).toNat)
  case atStart => exact ⟨0, by omega, rfl, Below.refl _ _, rfl⟩
  case round =>
    obtain ⟨k, hk, rfl, hb, HA⟩ := hrel
    by_cases hlt : k < n
    · have hkl : k < l.length := by rw [← HN.out]; exact hlt
      have hA := R.addr (by omega)
      subst hA
      have R2 := R.below hb
      have j0 := R2.c0 k hkl
      have j1 := R2.c1 k hkl
      have HS := hide (all_take_succ l leftOk k hkl)
      generalize l.getD k default = j at j0 j1 HS
      cases hg : leftOk j with
      | true =>
        go_wp2_with (go_at_call 186; refine (leftBad_any _ _ _).mono ?_; rintro e w3 ⟨rfl, hb3⟩; rw [show leftOk ⟨j.dl, j.need⟩ = leftOk j from rfl, hg])
        go_roundw
        case rel => exact ⟨k + 1, by omega, by go_num, below_then hb hb3, by show _ = _; rw [HS.out, HA.out, hg]; rfl⟩
        case measure => simp [intOf]; omega
      | false =>
        go_wp2_with (go_at_call 186; refine (leftBad_any _ _ _).mono ?_; rintro e w3 ⟨rfl, hb3⟩; rw [show leftOk ⟨j.dl, j.need⟩ = leftOk j from rfl, hg])
        go_ret
        refine ⟨k, rfl, ?_, below_then hb hb3⟩
        have : l.all leftOk = false := by
          rw [← List.take_append_drop (k + 1) l, List.all_append, HS.out, hg]; simp
        rw [this]; simp
    · go_wp2
      go_ret
      refine ⟨-1, rfl, ?_, hb⟩
      have : l.all leftOk = true := by
        have := HA.out
        rwa [List.take_of_length_le (by rw [← HN.out]; omega)] at this
      rw [this]; simp
theorem containsBadL_any (A : Option Addr) (b off c : Nat) (l : List Left) (w : World) (R : RdLefts w A b off l) :
    Calls Tryd.prog 185 #[.slice A l.length c, .func (.func 186) #[] #[]] w fun e w' => e = .returned (.bool (!(l.all leftOk))) ∧ Below w.heap.size w w' := by
  go_enter Tryd.func185, Tryd.ntmps185
  go_wp2_with (go_at_call 197; refine (indexBadL_any A b off c l _ R).mono ?_; rintro e w3 ⟨r, rfl, hr, hb3⟩)
  go_ret
  exact ⟨by first | rfl | exact ret_bool hr, hb3⟩
theorem may_any (now : Int) (A : Option Addr) (b off c : Nat) (l : List Left) (w : World) (R : RdLefts w A b off l) :
    Calls Tryd.prog 157 #[.int .i64 now, .slice A l.length c] w fun e w' => e = .returned (.bool (edfMay now l)) ∧ Below w.heap.size w w' := by
  have hn := R.len
  have he : edfMay now l = (inLeft now && (decide (l.length ≤ 1000) && l.all leftOk)) := rfl
  have HE := hide he
  clear he
  cases h0 : inLeft now with
  | false =>
    go_enter Tryd.func157, Tryd.ntmps157
    go_wp2_with (go_at_call 184; refine (edfIn_any _ _).mono ?_; rintro e w' ⟨rfl, rfl⟩)
    go_ret
    exact ⟨ret_bool (by rw [HE.out, h0]; rfl), Below.refl _ _⟩
  | true =>
    by_cases h : l.length ≤ 1000
    · go_enter Tryd.func157, Tryd.ntmps157
      go_wp2_with (first | (go_at_call 184; refine (edfIn_any _ _).mono ?_; rintro e w' ⟨rfl, rfl⟩) | (go_at_call 185; refine (containsBadL_any A b off c l _ R).mono ?_; rintro e w3 ⟨rfl, hb3⟩))
      go_ret
      exact ⟨ret_bool (by rw [HE.out, h0]; simp [h]), hb3⟩
    · go_enter Tryd.func157, Tryd.ntmps157
      go_wp2_with (go_at_call 184; refine (edfIn_any _ _).mono ?_; rintro e w' ⟨rfl, rfl⟩)
      go_ret
      exact ⟨ret_bool (by rw [HE.out, h0]; simp [h]), Below.refl _ _⟩
end Go.Proofs.YtjgegnjclmkpeaaDoor
