/- A job.Job by value, a []int, opened. -/
import Derived.Test.YtjgegnjclmkpeaaDoorRuleArg
import Derived.Test.YtjgegnjclmkpeaaDoorDovTwoW
import Derived.Carry
set_option linter.unusedVariables false
set_option linter.unusedSimpArgs false
namespace Go.Proofs.YtjgegnjclmkpeaaDoor
open Go.ChangeShapes Go.WideShapes Go.ChangeAt Go.RowKit Go.Deep Go.Lib Go.Proofs

section
variable {H : Type} {enc : TypeId × Value → H} {W : World}
set_option maxRecDepth 100000 in
theorem open_jobv {r : Reach} {b0 : Nat} {v : Value} {d : DataW H} {p : List MemPlace} (hv : Value.okWide Tryd.prog W r b0 39 v) (h : DataW.Trod enc Tryd.prog W 0 (fun _ => true) true 39 v d p)
    (hw : ∀ n ∈ d.weights Tryd.prog 39, n ≤ reachBytes) : ∃ j : Job, v = jagg j ∧ j.name.size ≤ 140737488351232 := by
  obtain ⟨fs, hs, -⟩ := jobFields
  obtain ⟨cs, rfl, -⟩ := okWide_struct hs hv
  obtain ⟨fuel, hf⟩ := h
  obtain ⟨j, e, ds, hd⟩ := open_job hf
  refine ⟨j, ?_, ?_⟩
  · have e' : cs.toList = encJ j := by simpa [Value.cells] using e
    rw [show cs = (encJ j).toArray by rw [← e']]
    rfl
  · simp only at hd
    have := hw _ (by rw [hd]; exact job_weight _ _)
    unfold reachBytes at this
    simpa using this
set_option maxRecDepth 100000 in
theorem bytesInt : Tryd.prog.bytesOf 3 = 8 := by kernel_rfl
set_option maxRecDepth 100000 in
theorem open_intsv {a0 : Option Addr} {len cap fuel : Nat} {x : DataW H × List MemPlace} (hf : DataW.trod enc Tryd.prog W 0 (fun _ => true) true fuel 25 [.slice a0 len cap] = some x)
    (hw : ∀ n ∈ x.1.weights Tryd.prog 25, n ≤ reachBytes) : len ≤ 140737488351232 ∧ (len ≤ 10000 → ∃ b off, ∃ t : List Int, t.length = len ∧ RdInts W a0 b off t) := by
  rcases open_ints Tryd.underlying25 Tryd.underlying3 cellsInt hf with ⟨hcs, -⟩ | ⟨a, len', cap', zs, hcs, -, hlc, -, hz, hx, hc, -⟩
  · simp at hcs
    obtain ⟨rfl, rfl, rfl⟩ := hcs
    exact ⟨by omega, fun _ => ⟨0, 0, [], rfl, ⟨by simp, by simp, by simp, by simp⟩⟩⟩
  · simp at hcs
    obtain ⟨rfl, rfl, rfl⟩ := hcs
    simp only [if_true] at hz
    have hb : (zs.take len).length + (zs.drop len).length = cap := by rw [← List.length_append, List.take_append_drop]; exact hz
    refine ⟨?_, fun h => ?_⟩
    · have := hw (((zs.take len).length + (zs.drop len).length) * Tryd.prog.bytesOf 3) (by rw [hx]; simp [DataW.weights, Tryd.underlying25, lits])
      rw [bytesInt, hb] at this
      unfold reachBytes at this
      omega
    · obtain ⟨b, off, spot⟩ := a
      have hspot : 0 < len → spot = none := fun h0 => by
        have h1 := hc 0 (by omega)
        simpa [Addr.add] using World.cell?_spot h1
      have hcell : ∀ i, i < len → spot = none ∧ W.cell? ⟨b, off + i, none⟩ = some (.int .i64 ((zs.take len).getD i 0)) := fun i hi => by
        have hs := hspot (by omega)
        subst hs
        refine ⟨rfl, ?_⟩
        have h1 := hc i (by omega)
        have h2 : (zs.take len).getD i 0 = zs.getD i 0 := by
          simp only [List.getD_eq_getElem?_getD]; rw [List.getElem?_take_of_lt hi]
        rw [h2, ← h1]
        congr 1
        unfold Addr.add
        split
        · rename_i h; simp only [Addr.mk.injEq, true_and, and_true]; omega
        · simp only
      refine ⟨b, off, zs.take len, by rw [List.length_take]; omega, ⟨by rw [List.length_take]; omega, fun h0 => ?_, fun h0 => ?_, fun i hi => (hcell i (by rw [List.length_take] at hi; omega)).2⟩⟩
      · rw [List.length_take] at h0
        rw [(hcell 0 (by omega)).1]
      · rw [List.length_take] at h0
        exact World.block_lt_of_cell? W _ (hcell 0 (by omega)).2
end
end Go.Proofs.YtjgegnjclmkpeaaDoor
