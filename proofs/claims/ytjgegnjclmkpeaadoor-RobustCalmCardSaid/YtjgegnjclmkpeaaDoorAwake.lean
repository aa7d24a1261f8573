/- The statements' helper awake: what the document tells of two jobs. -/
import Derived.Test.YtjgegnjclmkpeaaDoorLaw20
set_option linter.unusedVariables false
set_option linter.unusedSimpArgs false
namespace Go.Proofs.YtjgegnjclmkpeaaDoor
open Go.RowKit Go.Sort Go.Proofs

theorem ints_lit {w2 W0 : World} {B c q : Nat} {A : Option Addr} (l : List Int) (hl : l.length ≤ 1000) (hb : Below w2.heap.size w2 W0) (ho : w2.ownsRow B 3 1 (.slice A l.length c) l.length (ints l)) (hq : q = W0.heap.size) :
    Calls Tryd.prog 22 #[.slice A l.length c, .slice (some ⟨q, 0, none⟩) l.length l.length] (W0.alloc (.cells (ints l).toArray 3 (0, 0))) fun e w' => e = .returned (.bool true) ∧ Below W0.heap.size W0 w' := by
  subst hq
  have hba := below_alloc (Below.refl _ W0) (.cells (ints l).toArray 3 (0, 0))
  obtain ⟨bt, hR⟩ := rdi_own (own_below ho (below_then hb hba)) (by omega)
  refine (ints_any A bt 0 c _ W0.heap.size 0 l.length l _ hR ⟨by omega, fun _ => rfl, fun _ => by simp, fun i hi => ?_⟩).mono ?_
  · rw [Nat.zero_add, cell_of_heap (heap_alloc_new W0 _), ← ints_at l i hi]
    simp
  · rintro e w' ⟨rfl, hb'⟩
    exact ⟨rfl, below_then hba hb'⟩
set_option maxHeartbeats 4000000 in
set_option maxRecDepth 100000 in
theorem awake_any (w : World) (hT : Tabs w) : Calls Tryd.prog 14 #[] w fun e w' => e = .returned (.bool true) ∧ Below w.heap.size w w' := by
  obtain ⟨W1, hW1⟩ : ∃ W1, W1 = w.alloc (.cells #[.string ⟨#[104]⟩, .int .i64 0, .int .i64 4, .int .i64 3, .int .i64 3, .int .i64 0, .int .i64 0, .bool true, .string ⟨#[102]⟩, .int .i64 0, .int .i64 4, .int .i64 2, .int .i64 2, .int .i64 9, .int .i64 0, .bool false] 39 (0, 0)) := ⟨_, rfl⟩
  have hb1 : Below w.heap.size w W1 := by rw [hW1]; exact below_alloc (Below.refl _ w) _
  have hR : RdJobs W1 (some ⟨w.heap.size, 0, none⟩) w.heap.size 0 awakeL := by
    refine ⟨by decide, by decide, fun _ => rfl, fun _ => by rw [hW1]; simp, fun i hi => ?_⟩
    have hi2 : i < 2 := hi
    rcases (by omega : i = 0 ∨ i = 1) with rfl | rfl
    · constructor <;> rw [hW1] <;> simp <;> rfl
    · constructor <;> rw [hW1] <;> simp <;> rfl
  have hrun := robRun_any _ _ _ 2 awakeL W1 hR (hT.below hb1) awakeL_ok (by decide)
  obtain ⟨ht, hs, hf⟩ := awakeL_run
  have hrun2 : Calls Tryd.prog 16 #[.slice (some ⟨w.heap.size, 0, none⟩) 2 2] W1 fun e w' => Below W1.heap.size W1 w' ∧ ∃ (v : RV) (q : Nat), e = .returned (.tuple #[.agg #[.slice v.Atr 4 v.ctr, .slice (some ⟨v.bfa, 0, none⟩) 2 v.cfa, .slice v.Ash 1 v.csh, .slice v.Aag q v.cag], .int .i64 0]) ∧
      w'.ownsRow W1.heap.size 3 1 (.slice v.Atr 4 v.ctr) 4 (ints [0, 0, 0, -1]) ∧ w'.ownsRow W1.heap.size 3 1 (.slice v.Ash 1 v.csh) 1 (ints [1]) ∧ w'.ownsRow W1.heap.size 34 2 (.slice (some ⟨v.bfa, 0, none⟩) 2 v.cfa) 2 (fates [(1, 3), (3, 3)]) := by
    refine hrun.mono ?_
    rintro e w' ⟨hb, v, rfl, hO⟩
    have o1 := hO.tr
    have o2 := hO.sh
    have o3 := hO.fa
    rw [ht] at o1
    rw [hs] at o2
    rw [hf] at o3
    refine ⟨hb, v, (Rob.run awakeL).ag.length, ?_, o1, o2, o3⟩
    unfold outVal
    rw [ht, hs, hf]; rfl
  have HRUN : Aside0 _ := ⟨hrun2⟩
  have HW1 := hide hW1
  have HB1 : Aside0 _ := ⟨hb1⟩
  clear hrun hrun2 hR hb1 hW1 ht hs hf
  go_enter Tryd.func14, Tryd.ntmps14
  go_wp2_with (first
    | (go_at_call 16; rw [← HW1.out]; refine HRUN.out.mono ?_; rintro e w2 ⟨hb2, v, q, rfl, o1, o2, o3⟩; have HO1 : Aside0 _ := ⟨o1⟩; have HO2 : Aside0 _ := ⟨o2⟩; have HO3 : Aside0 _ := ⟨o3⟩; have HB2 : Aside0 _ := ⟨hb2⟩; clear o1 o2 o3 hb2))
  go_at_call 22
  refine (ints_lit (w2 := w2) [0, 0, 0, -1] (by decide) (below_alloc (Below.refl _ _) _) HO1.out (by simp)).mono ?_
  rintro e w3 ⟨rfl, hb3⟩
  have hsz : w2.heap.size < (w2.alloc (.cells #[.slice v.Atr 4 v.ctr, .slice (some ⟨v.bfa, 0, none⟩) 2 v.cfa, .slice v.Ash 1 v.csh, .slice v.Aag q v.cag] 28 (0, 0))).heap.size := by simp
  have d1 := hb3.cell (p := ⟨w2.heap.size, 1, none⟩) hsz
  have d2 := hb3.cell (p := ⟨w2.heap.size, 2, none⟩) hsz
  simp at d1 d2
  have hb23 := below_then (below_alloc (Below.refl _ w2) _) hb3
  have hs3 : w2.heap.size < w3.heap.size := Nat.lt_of_lt_of_le hsz hb3.size
  have HB23 : Aside0 _ := ⟨hb23⟩
  clear hb23 hb3 hsz
  go_wp2_with fail
  go_at_call 22
  refine (ints_lit (w2 := w2) [1] (by decide) HB23.out HO2.out rfl).mono ?_
  rintro e w4 ⟨rfl, hb4⟩
  have d11 := (hb4.cell (p := ⟨w2.heap.size, 1, none⟩) hs3).trans d1
  have ho3 := own_below HO3.out (below_then HB23.out hb4)
  have g0 := own_fate ho3 0 (by omega)
  have g1 := own_fate ho3 1 (by omega)
  simp at g0 g1
  obtain ⟨g00, g01⟩ := g0
  obtain ⟨g10, g11⟩ := g1
  have HB4 : Aside0 _ := ⟨below_then HB1.out (below_then HB2.out (below_then HB23.out hb4))⟩
  clear ho3 hb4
  go_wp2
  go_ret
  exact ⟨rfl, HB4.out⟩
end Go.Proofs.YtjgegnjclmkpeaaDoor
