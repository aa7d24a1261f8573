/- A dover.Rule argument, opened. -/
import Derived.Test.YtjgegnjclmkpeaaDoorTabs
import Derived.Test.YtjgegnjclmkpeaaDoorSurdW
set_option linter.unusedVariables false
set_option linter.unusedSimpArgs false
namespace Go.Proofs.YtjgegnjclmkpeaaDoor
open Go.ChangeShapes Go.WideShapes Go.ChangeAt Go.RowKit Go.Deep Go.Lib Go.Proofs

section
variable {H : Type} {enc : TypeId × Value → H} {W : World} {base : Nat} {spare : Nat → Bool} {held : Bool}
set_option maxRecDepth 100000 in
theorem ruleFields : ∃ f0 f1, Tryd.prog.underlying 45 = some (.struct #[f0, f1]) ∧ f0.type = 2 ∧ f1.type = 2 ∧ oneCellFields Tryd.prog #[f0, f1] = true := ⟨_, _, Tryd.underlying45, rfl, rfl, by kernel_rfl⟩
set_option maxRecDepth 100000 in
theorem cellsRule : Tryd.prog.cellsOf 45 = 2 := by kernel_rfl
set_option maxRecDepth 100000 in
theorem open_rule {r : Reach} {b0 : Nat} {v : Value} {d : DataW H} {p : List MemPlace} (hv : Value.okWide Tryd.prog W r b0 45 v) (h : DataW.Trod enc Tryd.prog W base (fun _ => true) true 45 v d p) :
    ∃ P Q : Int, v = .agg #[.int .i64 P, .int .i64 Q] := by
  obtain ⟨f0, f1, hs, t0, t1, hone⟩ := ruleFields
  obtain ⟨v0, v1, y0, y1, n, rfl, -, -, g0, g1⟩ := Joins.open_agg2 hs hone cellsRule hv h
  rw [t0] at g0
  rw [t1] at g1
  obtain ⟨z0, e0, -, -⟩ := DataW.trod_int Tryd.underlying2 g0
  obtain ⟨z1, e1, -, -⟩ := DataW.trod_int Tryd.underlying2 g1
  simp only [List.cons.injEq, and_true] at e0 e1
  subst e0 e1
  exact ⟨z0, z1, rfl⟩
end
end Go.Proofs.YtjgegnjclmkpeaaDoor
