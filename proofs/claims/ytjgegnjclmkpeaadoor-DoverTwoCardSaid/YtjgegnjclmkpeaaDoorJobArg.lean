/- The row's side: an argument of jobs, opened; Go's tables, out of what the rows list. -/
import Derived.Test.YtjgegnjclmkpeaaDoorTraceGood
import Derived.Test.YtjgegnjclmkpeaaDoorCards
import Derived.Test.YtjgegnjclmkpeaaDoorTie
import Derived.ProofKit
import Derived.OpenShut
import Derived.SizedLaws
import Derived.PinnedBridge
import Derived.Lay
import Derived.LaidOnce
import Derived.SevenTiedAt
import Derived.Deep.Slices
import Derived.Deep.DeepHandedRow
import Derived.Deep.DeepWitnessRowRef
import Derived.Lib.LaidTab
import Derived.Lib.LaidRTabT
import Derived.Lib.LaidU8T
set_option linter.unusedVariables false
set_option linter.unusedSimpArgs false
namespace Go.Proofs.YtjgegnjclmkpeaaDoor
open Go.ChangeShapes Go.WideShapes Go.ChangeAt Go.RowKit Go.Deep Go.Lib Go.Proofs

theorem own : ownKnob Tryd.prog.godebug = none := by kernel_rfl
theorem laidOut : laidOutB Tryd.prog = true := by kernel_rfl
theorem cellsJob : Tryd.prog.cellsOf 39 = 8 := by kernel_rfl
theorem bytesJob : Tryd.prog.bytesOf 39 = 72 := by kernel_rfl
theorem cellsInt : Tryd.prog.cellsOf 3 = 1 := by kernel_rfl
theorem cellsStr : Tryd.prog.cellsOf 9 = 1 := by kernel_rfl
theorem cellsBool : Tryd.prog.cellsOf 4 = 1 := by kernel_rfl
section
variable {H : Type} {enc : TypeId × Value → H} {W : World} {base : Nat} {spare : Nat → Bool} {held : Bool}
theorem jobFields : ∃ fs, Tryd.prog.underlying 39 = some (.struct fs) ∧ fs.toList.map (fun f => (f.type, f.offset)) = [(9, 0), (3, 1), (3, 2), (3, 3), (3, 4), (3, 5), (3, 6), (4, 7)] := ⟨_, Tryd.underlying39, by kernel_rfl⟩
set_option maxRecDepth 100000 in
/-- One job, opened. -/
theorem open_job {n : Nat} {cs : List Value} {x : DataW H × List MemPlace} (h : DataW.trod enc Tryd.prog W base spare held n 39 cs = some x) :
    ∃ j : Job, cs = encJ j ∧ ∃ ds, x.1 = .agg (.lit (.string j.name.data.toList) :: ds) := by
  obtain ⟨fs, hu, hf⟩ := jobFields
  obtain ⟨xs, m, rfl, rfl, hcl, hxl, hfield⟩ := DataW.trod_struct hu h
  rw [cellsJob] at hcl
  have hsz : fs.size = 8 := by have := congrArg List.length hf; simpa using this
  have g : ∀ (i : Nat) (t : TypeId) (o : Nat), ([(9, 0), (3, 1), (3, 2), (3, 3), (3, 4), (3, 5), (3, 6), (4, 7)] : List (TypeId × Nat))[i]? = some (t, o) → DataW.trod enc Tryd.prog W base spare held m t ((cs.drop o).take (Tryd.prog.cellsOf t)) = xs[i]? := by
    intro i t o hi
    rw [← hf, List.getElem?_map] at hi
    obtain ⟨f, hfi, he⟩ := Option.map_eq_some_iff.1 hi
    rw [Array.getElem?_toList] at hfi
    have := hfield i f hfi
    simp only [Prod.mk.injEq] at he
    rw [he.1, he.2] at this
    exact this
  match cs, hcl with
  | [k0, k1, k2, k3, k4, k5, k6, k7], _ =>
    match xs, (show xs.length = 8 by omega) with
    | [y0, y1, y2, y3, y4, y5, y6, y7], _ =>
      have g0 := g 0 9 0 rfl
      have g1 := g 1 3 1 rfl
      have g2 := g 2 3 2 rfl
      have g3 := g 3 3 3 rfl
      have g4 := g 4 3 4 rfl
      have g5 := g 5 3 5 rfl
      have g6 := g 6 3 6 rfl
      have g7 := g 7 4 7 rfl
      rw [cellsStr] at g0
      rw [cellsInt] at g1 g2 g3 g4 g5 g6
      rw [cellsBool] at g7
      obtain ⟨z0, e0, x0, -⟩ := DataW.trod_string Tryd.underlying9 g0
      obtain ⟨z1, e1, x1, -⟩ := DataW.trod_int Tryd.underlying3 g1
      obtain ⟨z2, e2, x2, -⟩ := DataW.trod_int Tryd.underlying3 g2
      obtain ⟨z3, e3, x3, -⟩ := DataW.trod_int Tryd.underlying3 g3
      obtain ⟨z4, e4, x4, -⟩ := DataW.trod_int Tryd.underlying3 g4
      obtain ⟨z5, e5, x5, -⟩ := DataW.trod_int Tryd.underlying3 g5
      obtain ⟨z6, e6, x6, -⟩ := DataW.trod_int Tryd.underlying3 g6
      obtain ⟨z7, e7, x7⟩ := DataW.trod_bool Tryd.underlying4 g7
      simp only [List.drop_zero, List.drop_succ_cons, List.take_succ_cons, List.take_zero, List.cons.injEq, and_true] at e0 e1 e2 e3 e4 e5 e6 e7
      subst e0 e1 e2 e3 e4 e5 e6 e7
      refine ⟨⟨z0, z1, z2, z3, z4, z5, z6, z7⟩, rfl, [y1.1, y2.1, y3.1, y4.1, y5.1, y6.1, y7.1], ?_⟩
      rw [x0]; rfl
theorem weightsAll_mem {P : Program} {e : TypeId} {n : Nat} : ∀ {ds : List (DataW H)} {d : DataW H}, d ∈ ds → n ∈ d.weights P e → n ∈ DataW.weightsAll P e ds
  | d0 :: ds, d, hd, hn => by
    simp only [DataW.weightsAll, List.mem_append]
    rcases List.mem_cons.1 hd with rfl | h
    · exact .inl hn
    · exact .inr (weightsAll_mem h hn)
theorem job_weight (bs : List UInt8) (ds : List (DataW H)) : bs.length ∈ (DataW.agg (.lit (.string bs) :: ds)).weights Tryd.prog 39 := by
  obtain ⟨fs, hu, hf⟩ := jobFields
  have ht : fs.toList.map (·.type) = 9 :: [3, 3, 3, 3, 3, 3, 4] := by
    have := congrArg (List.map Prod.fst) hf
    simpa [List.map_map, Function.comp_def] using this
  simp only [DataW.weights, hu, ht, DataW.weightsEach, List.mem_append, List.mem_singleton]
  exact .inl trivial
/-- A []job.Job THAT CAME IN, nil or not, AS THE WALK WANTS IT. -/
theorem open_jobs {a0 : Option Addr} {len cap fuel : Nat} {x : DataW H × List MemPlace}
    (hf : DataW.trod enc Tryd.prog W 0 (fun _ => true) true fuel 22 [.slice a0 len cap] = some x) (hw : ∀ n ∈ x.1.weights Tryd.prog 22, n ≤ reachBytes) :
    ∃ (b off : Nat) (l : List Job), l.length = len ∧ RdJobs W a0 b off l := by
  rcases open_slice Tryd.underlying22 hf with ⟨hcs, -⟩ | ⟨a, len', cap', m, n, D, Pl, hcs, -, hlc, -, hm, hx, hel⟩
  · simp at hcs
    obtain ⟨rfl, rfl, rfl⟩ := hcs
    exact ⟨0, 0, [], rfl, ⟨by simp, by simp, by simp, by simp, by simp⟩⟩
  · simp at hcs
    obtain ⟨rfl, rfl, rfl⟩ := hcs
    simp only [if_true] at hm
    subst hm
    have hxd : x.1 = .slice ((List.range len).map D) ((List.range (m - len)).map fun j => D (len + j)) := by rw [hx]
    have hlen : len * 72 ≤ reachBytes := by
      have := hw ((((List.range len).map D).length + ((List.range (m - len)).map fun j => D (len + j)).length) * Tryd.prog.bytesOf 39) (by rw [hxd]; simp [DataW.weights, Tryd.underlying22])
      rw [bytesJob] at this
      simp only [List.length_map, List.length_range] at this
      omega
    have hj : ∀ i, i < len → ∃ j : Job, W.cells? 0 (a.add (i * 8)) 8 = some (encJ j) ∧ ∃ ds, D i = .agg (.lit (.string j.name.data.toList) :: ds) := fun i hi => by
      obtain ⟨cs', hc, ht⟩ := hel i (by omega)
      rw [cellsJob] at hc
      obtain ⟨j, rfl, ds, hd⟩ := open_job ht
      exact ⟨j, hc, ds, hd⟩
    obtain ⟨f, hfj⟩ := choose_lt hj
    obtain ⟨b, off, spot⟩ := a
    have hspot : 0 < len → spot = none := fun h0 => by
      obtain ⟨-, hl8, hc⟩ := World.cells?_some (hfj 0 h0).1
      have h1 := hc 0 (by omega)
      have e0 : (encJ (f 0))[0]? = some (.string (f 0).name) := rfl
      rw [e0] at h1
      simpa [Addr.add] using World.cell?_spot h1
    have hcell : ∀ i, i < len → spot = none ∧ ∀ q, q < 8 → W.cell? ⟨b, off + i * 8 + q, none⟩ = (encJ (f i))[q]? := fun i hi => by
      have hs := hspot (by omega)
      subst hs
      obtain ⟨-, hl8, hc⟩ := World.cells?_some (hfj i hi).1
      refine ⟨rfl, fun q hq => ?_⟩
      rw [← hc q hq, add_add]
      congr 1
      unfold Addr.add
      split
      · rename_i h; simp only [Addr.mk.injEq, true_and, and_true]; omega
      · simp only [Addr.mk.injEq, true_and, and_true]; omega
    refine ⟨b, off, (List.range len).map f, by simp, ⟨by simp; unfold reachBytes at hlen; omega, fun j hj => ?_, fun h0 => ?_, fun h0 => ?_, fun i hi => ?_⟩⟩
    · obtain ⟨i, hi, rfl⟩ := List.mem_map.1 hj
      have hi' := List.mem_range.1 hi
      obtain ⟨-, ds, hd⟩ := hfj i hi'
      have hmem : (f i).name.data.toList.length ∈ x.1.weights Tryd.prog 22 := by
        rw [hxd]
        simp only [DataW.weights, Tryd.underlying22, List.mem_cons, List.mem_append]
        refine .inr (.inl (weightsAll_mem (d := D i) (List.mem_map.2 ⟨i, hi, rfl⟩) ?_))
        rw [hd]; exact job_weight _ _
      have := hw _ hmem
      unfold reachBytes at this
      simpa using this
    · rw [(hcell 0 (by simpa using h0)).1]
    · have h1 := (hcell 0 (by simpa using h0)).2 0 (by omega)
      have e0 : (encJ (f 0))[0]? = some (.string (f 0).name) := rfl
      rw [e0] at h1
      exact World.block_lt_of_cell? W _ h1
    · have hi' : i < len := by simpa using hi
      have e : Rob.jb ((List.range len).map f) i = f i := by
        unfold Rob.jb
        rw [List.getD_eq_getElem?_getD, List.getElem?_map, List.getElem?_range hi']; rfl
      rw [e]
      exact row_of (hcell i hi').2
end
end Go.Proofs.YtjgegnjclmkpeaaDoor
