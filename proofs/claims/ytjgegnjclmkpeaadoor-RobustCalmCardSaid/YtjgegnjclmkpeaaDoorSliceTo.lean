/- s[:d] of a row of whole numbers: the operation's run. -/
import Derived.Test.YtjgegnjclmkpeaaDoorEdfRunC
set_option linter.unusedVariables false
set_option linter.unusedSimpArgs false
namespace Go.Proofs.YtjgegnjclmkpeaaDoor
open Go.RowKit Go.Sort Go.Proofs
theorem slice_to (b E c d : Nat) (hd : d ≤ c) (hc : c ≤ 9223372036854775807) (h0 : 0 < d) (w : World) :
    (Instr.slice 25 (.slice (some ⟨b, 0, none⟩) E c) none (some (.int .i64 d)) none).run Tryd.prog w = .ok (.slice (some ⟨b, 0, none⟩) d c) w := by
  have u := run_underlying (P := Tryd.prog) Tryd.underlying25 w
  have hw : IntKind.i64.wrap (d : Int) = d := by rw [IntKind.wrap_i64]; omega
  have n1 : ¬ (d : Int) < 0 := by omega
  have n2 : ¬ (c : Int) < (d : Int) := by omega
  simp [Instr.slice, Instr.sliceBounds, u, hw, n1, n2, go_sem, Addr.add]
  intro hcd
  omega
end Go.Proofs.YtjgegnjclmkpeaaDoor
