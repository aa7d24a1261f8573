/- Layer 19's helper awake: what the document tells of two jobs. -/
import Derived.Test.YtjgegnjclmkpeaaDoorLaw19
set_option linter.unusedVariables false
set_option linter.unusedSimpArgs false
namespace Go.Proofs.YtjgegnjclmkpeaaDoor
open Go.RowKit Go.Sort Go.Proofs

def twoL : List Job := [⟨⟨#[97]⟩, 0, 4, 4, 4, 3, 0, false⟩, ⟨⟨#[98]⟩, 0, 4, 4, 4, 4, 0, false⟩]
theorem twoL_ok : allOk twoL = true := by kernel_rfl
theorem twoL_run : (Dov.run twoL 1 1).tr = [0, 0, 0, 0] ∧ (Dov.run twoL 1 1).al = [1] ∧ (Dov.run twoL 1 1).fa = [(1, 4), (3, 0)] := ⟨by kernel_rfl, by kernel_rfl, by kernel_rfl⟩
theorem two_any (w : World) : Calls Tryd.prog 60 #[.int .i64 4] w fun e w' => e = .returned (.slice (some ⟨w.heap.size, 0, none⟩) 2 2) ∧ Below w.heap.size w w' ∧ RdJobs w' (some ⟨w.heap.size, 0, none⟩) w.heap.size 0 twoL := by
  obtain ⟨W1, hW1⟩ : ∃ W1, W1 = w.alloc (.cells #[.string ⟨#[97]⟩, .int .i64 0, .int .i64 4, .int .i64 4, .int .i64 4, .int .i64 3, .int .i64 0, .bool false, .string ⟨#[98]⟩, .int .i64 0, .int .i64 4, .int .i64 4, .int .i64 4, .int .i64 4, .int .i64 0, .bool false] 39 (0, 0)) := ⟨_, rfl⟩
  have hb1 : Below w.heap.size w W1 := by rw [hW1]; exact below_alloc (Below.refl _ w) _
  have hR : RdJobs W1 (some ⟨w.heap.size, 0, none⟩) w.heap.size 0 twoL := by
    refine ⟨by decide, by decide, fun _ => rfl, fun _ => by rw [hW1]; simp, fun i hi => ?_⟩
    have hi2 : i < 2 := hi
    rcases (by omega : i = 0 ∨ i = 1) with rfl | rfl
    · constructor <;> rw [hW1] <;> simp <;> rfl
    · constructor <;> rw [hW1] <;> simp <;> rfl
  have HW1 := hide hW1
  have HR : Aside0 _ := ⟨hR⟩
  have HB1 : Aside0 _ := ⟨hb1⟩
  clear hW1 hR hb1
  go_enter Tryd.func60, Tryd.ntmps60
  go_wp2
  go_ret
  rw [← HW1.out]
  exact ⟨rfl, HB1.out, HR.out⟩
theorem ints19_lit {w2 W0 : World} {B c q : Nat} {A : Option Addr} (l : List Int) (hl : l.length ≤ 1000) (hb : Below w2.heap.size w2 W0) (ho : w2.ownsRow B 3 1 (.slice A l.length c) l.length (ints l)) (hq : q = W0.heap.size) :
    Calls Tryd.prog 29 #[.slice A l.length c, .slice (some ⟨q, 0, none⟩) l.length l.length] (W0.alloc (.cells (ints l).toArray 3 (0, 0))) fun e w' => e = .returned (.bool true) ∧ Below W0.heap.size W0 w' := by
  subst hq
  have hba := below_alloc (Below.refl _ W0) (.cells (ints l).toArray 3 (0, 0))
  obtain ⟨bt, hR⟩ := rdi_own (own_below ho (below_then hb hba)) (by omega)
  refine (ints19_any A bt 0 c _ W0.heap.size 0 l.length l _ hR ⟨by omega, fun _ => rfl, fun _ => by simp, fun i hi => ?_⟩).mono ?_
  · rw [Nat.zero_add, cell_of_heap (heap_alloc_new W0 _), ← ints_at l i hi]
    simp
  · rintro e w' ⟨rfl, hb'⟩
    exact ⟨rfl, below_then hba hb'⟩
theorem fates19_lit {w2 W0 : World} {B c q bf : Nat} (l : List (Int × Int)) (hl : l.length ≤ 1000) (hb : Below w2.heap.size w2 W0) (ho : w2.ownsRow B 34 2 (.slice (some ⟨bf, 0, none⟩) l.length c) l.length (fates l)) (hq : q = W0.heap.size) :
    Calls Tryd.prog 61 #[.slice (some ⟨bf, 0, none⟩) l.length c, .slice (some ⟨q, 0, none⟩) l.length l.length] (W0.alloc (.cells (fates l).toArray 34 (0, 0))) fun e w' => e = .returned (.bool true) ∧ Below W0.heap.size W0 w' := by
  subst hq
  have hba := below_alloc (Below.refl _ W0) (.cells (fates l).toArray 34 (0, 0))
  have ho2 := own_below ho (below_then hb hba)
  refine (fates19_any (some ⟨bf, 0, none⟩) bf c _ W0.heap.size l.length l _ ⟨by omega, fun _ => rfl, fun _ => own_size ho2 rfl, fun i hi => own_fate ho2 i hi⟩ ⟨by omega, fun _ => rfl, fun _ => by simp, fun i hi => ?_⟩).mono ?_
  · obtain ⟨h1, h2⟩ := fates_at l i hi
    constructor
    · rw [cell_of_heap (heap_alloc_new W0 _), ← h1]; simp
    · rw [cell_of_heap (heap_alloc_new W0 _), ← h2]; simp
  · rintro e w' ⟨rfl, hb'⟩
    exact ⟨rfl, below_then hba hb'⟩
set_option maxHeartbeats 4000000 in
set_option maxRecDepth 100000 in
theorem awake19_any (w : World) (hT : Tabs w) : Calls Tryd.prog 25 #[] w fun e w' => e = .returned (.bool true) ∧ Below w.heap.size w w' := by
  have htwo := two_any w
  obtain ⟨ht, hs, hf⟩ := twoL_run
  have hrun : ∀ W1 A b, Below w.heap.size w W1 → RdJobs W1 A b 0 twoL → Calls Tryd.prog 28 #[.agg #[.int .i64 1, .int .i64 1], .slice A 2 2] W1 fun e w' => Below W1.heap.size W1 w' ∧ ∃ (v : DV), e = .returned (.tuple #[.agg #[.slice v.Atr 4 v.ctr, .slice (some ⟨v.bfa, 0, none⟩) 2 v.cfa, .slice v.Aal 1 v.cal], .int .i64 0]) ∧
      w'.ownsRow W1.heap.size 3 1 (.slice v.Atr 4 v.ctr) 4 (ints [0, 0, 0, 0]) ∧ w'.ownsRow W1.heap.size 3 1 (.slice v.Aal 1 v.cal) 1 (ints [1]) ∧ w'.ownsRow W1.heap.size 34 2 (.slice (some ⟨v.bfa, 0, none⟩) 2 v.cfa) 2 (fates [(1, 4), (3, 0)]) := fun W1 A b hW hR => by
    refine (dovRun_any 1 1 A b 0 2 twoL W1 hR (hT.below hW) twoL_ok (by decide) ⟨by omega, by omega, by omega, by omega⟩ (by decide)).mono ?_
    rintro e w' ⟨hb, v, rfl, hO⟩
    have o1 := hO.tr
    have o2 := hO.al
    have o3 := hO.fa
    rw [ht] at o1
    rw [hs] at o2
    rw [hf] at o3
    refine ⟨hb, v, ?_, o1, o2, o3⟩
    unfold doutVal
    rw [ht, hs, hf]; rfl
  have HRUN : Aside0 _ := ⟨hrun⟩
  have HTWO : Aside0 _ := ⟨htwo⟩
  have HRULE : Aside0 (∀ W, _) := ⟨fun W => rule_any 1 1 W⟩
  rw [show ruleB 1 1 = true by decide] at HRULE
  clear hrun htwo ht hs hf
  go_enter Tryd.func25, Tryd.ntmps25
  go_wp2_with (first
    | (go_at_call 60; refine HTWO.out.mono ?_; rintro e w1 ⟨rfl, hb1, hR1⟩)
    | (go_at_call 28; refine (HRUN.out w1 _ _ hb1 hR1).mono ?_; rintro e w2 ⟨hb2, v, rfl, o1, o2, o3⟩; have HO1 : Aside0 _ := ⟨o1⟩; have HO2 : Aside0 _ := ⟨o2⟩; have HO3 : Aside0 _ := ⟨o3⟩; have HB2 : Aside0 _ := ⟨below_then hb1 hb2⟩; clear o1 o2 o3 hb2 hb1 hR1))
  go_at_call 29
  refine (ints19_lit (w2 := w2) [0, 0, 0, 0] (by decide) (below_alloc (Below.refl _ _) _) HO1.out (by simp)).mono ?_
  rintro e w3 ⟨rfl, hb3⟩
  have hsz : w2.heap.size < (w2.alloc (.cells #[.slice v.Atr 4 v.ctr, .slice (some ⟨v.bfa, 0, none⟩) 2 v.cfa, .slice v.Aal 1 v.cal] 48 (0, 0))).heap.size := by simp
  have d1 := hb3.cell (p := ⟨w2.heap.size, 1, none⟩) hsz
  have d2 := hb3.cell (p := ⟨w2.heap.size, 2, none⟩) hsz
  simp at d1 d2
  have hb23 := below_then (below_alloc (Below.refl _ w2) _) hb3
  have hs3 : w2.heap.size < w3.heap.size := Nat.lt_of_lt_of_le hsz hb3.size
  have HB23 : Aside0 _ := ⟨hb23⟩
  clear hb23 hb3 hsz
  go_wp2_with fail
  go_at_call 61
  refine (fates19_lit (w2 := w2) [(1, 4), (3, 0)] (by decide) HB23.out HO3.out rfl).mono ?_
  rintro e w4 ⟨rfl, hb4⟩
  have d22 := (hb4.cell (p := ⟨w2.heap.size, 2, none⟩) hs3).trans d2
  have hs4 := Nat.lt_of_lt_of_le hs3 hb4.size
  have HB24 : Aside0 _ := ⟨below_then HB23.out hb4⟩
  clear d1 d2 hb4
  go_wp2_with fail
  go_at_call 29
  refine (ints19_lit (w2 := w2) [1] (by decide) HB24.out HO2.out rfl).mono ?_
  rintro e w5 ⟨rfl, hb5⟩
  have HB5 : Aside0 _ := ⟨below_then HB2.out (below_then HB24.out hb5)⟩
  clear hb5
  go_wp2_with (go_at_call 27; refine (HRULE.out w5).mono ?_; rintro e w6 ⟨rfl, hb6⟩)
  go_ret
  exact ⟨rfl, below_then HB5.out hb6⟩
end Go.Proofs.YtjgegnjclmkpeaaDoor
