/- Package robust: the walk of Run. -/
import Derived.Test.YtjgegnjclmkpeaaDoorCloneJob
import Derived.Test.YtjgegnjclmkpeaaDoorRobBnd
import Derived.Deep.DeepCutAuto
import Derived.Laws.MakeOwn
set_option linter.unusedVariables false
set_option linter.unusedSimpArgs false
namespace Go.Proofs.YtjgegnjclmkpeaaDoor
open Go.RowKit Go.Sort Go.Proofs

/-- What Run hands back: lists that are its own. -/
structure OutAt (w : World) (B : Nat) (v : RV) (s : RS) : Prop where
  fa : w.ownsRow B 34 2 (.slice (some ⟨v.bfa, 0, none⟩) s.fa.length v.cfa) s.fa.length (fates s.fa)
  tr : w.ownsRow B 3 1 (.slice v.Atr s.tr.length v.ctr) s.tr.length (ints s.tr)
  sh : w.ownsRow B 3 1 (.slice v.Ash s.sh.length v.csh) s.sh.length (ints s.sh)
  ag : w.ownsRow B 3 1 (.slice v.Aag s.ag.length v.cag) s.ag.length (ints s.ag)
def outVal (v : RV) (s : RS) : Value := .agg #[.slice v.Atr s.tr.length v.ctr, .slice (some ⟨v.bfa, 0, none⟩) s.fa.length v.cfa, .slice v.Ash s.sh.length v.csh, .slice v.Aag s.ag.length v.cag]
theorem made_int (n : Nat) (hn : n ≤ 200) (w : World) : (Instr.makeSlice 25 (.int .i64 n) (.int .i64 n)).run Tryd.prog w = .ok (.slice (some ⟨w.heap.size, 0, none⟩) n n) (w.alloc (.cells (madeCells (Value.int .i64 0).cells n) 3 (0, 0))) := by
  obtain ⟨i0, hi, hzz⟩ := Option.map_eq_some_iff.1 (show (Tryd.prog.info? 3).map (fun i => (i.zero, i.size, i.bytes)) = some (some (.int .i64 0), 1, 8) by kernel_rfl)
  simp only [Prod.mk.injEq] at hzz
  obtain ⟨hz0, hz1, hz2⟩ := hzz
  have := run_make (P := Tryd.prog) w 25 3 i0 (.int .i64 0) Tryd.underlying25 hi hz0 .i64 .i64 n n (by omega) (by omega) (by rw [hz2]; omega) (by omega)
  rw [hz1] at this
  simpa using this
theorem made_fate (n : Nat) (hn : n ≤ 200) (w : World) : (Instr.makeSlice 26 (.int .i64 n) (.int .i64 n)).run Tryd.prog w = .ok (.slice (some ⟨w.heap.size, 0, none⟩) n n) (w.alloc (.cells (madeCells (Value.agg #[.int .i64 0, .int .i64 0]).cells (n * 2)) 34 (0, 0))) := by
  obtain ⟨i0, hi, hzz⟩ := Option.map_eq_some_iff.1 (show (Tryd.prog.info? 34).map (fun i => (i.zero, i.size, i.bytes)) = some (some (.agg #[.int .i64 0, .int .i64 0]), 2, 16) by kernel_rfl)
  simp only [Prod.mk.injEq] at hzz
  obtain ⟨hz0, hz1, hz2⟩ := hzz
  have := run_make (P := Tryd.prog) w 26 34 i0 (.agg #[.int .i64 0, .int .i64 0]) Tryd.underlying26 hi hz0 .i64 .i64 n n (by omega) (by omega) (by rw [hz2]; omega) (by omega)
  rw [hz1] at this
  simpa using this
theorem map_range_const {α : Type} (f : Nat → α) (x : α) (n : Nat) (h : ∀ i, f i = x) : (List.range n).map f = List.replicate n x := by
  rw [show f = fun _ => x from funext h, List.map_const', List.length_range]
theorem madeInts (n : Nat) : (madeCells (Value.int .i64 0).cells n).toList = ints (List.replicate n 0) ∧ (madeCells (Value.int .i64 0).cells n).size = n := by
  refine ⟨?_, by simp [madeCells]⟩
  rw [madeCells, Array.toList_map, Array.toList_range, map_range_const _ (Value.int .i64 0) n, ints, List.map_replicate]
  intro i
  simp [Value.cells, Nat.mod_one]
theorem fates_zero (n : Nat) : fates (List.replicate n (0, 0)) = List.replicate (n * 2) (Value.int .i64 0) := by
  induction n with
  | zero => rfl
  | succ n ih => rw [show (n + 1) * 2 = n * 2 + 1 + 1 by omega, List.replicate_succ, List.replicate_succ, List.replicate_succ, ← ih]; rfl
theorem madeFates (n : Nat) : (madeCells (Value.agg #[.int .i64 0, .int .i64 0]).cells (n * 2)).toList = fates (List.replicate n (0, 0)) ∧ (madeCells (Value.agg #[.int .i64 0, .int .i64 0]).cells (n * 2)).size = n * 2 := by
  refine ⟨?_, by simp [madeCells]⟩
  rw [madeCells, Array.toList_map, Array.toList_range, map_range_const _ (Value.int .i64 0) (n * 2), fates_zero]
  intro i
  have : i % 2 = 0 ∨ i % 2 = 1 := by omega
  rcases this with h | h <;> simp [Value.cells, h]
theorem own_madeI (w : World) (B n : Nat) (hB : B ≤ w.heap.size) (hn : n ≤ 200) : (w.alloc (.cells (madeCells (Value.int .i64 0).cells n) 3 (0, 0))).ownsRow B 3 1 (.slice (some ⟨w.heap.size, 0, none⟩) n n) n (ints (List.replicate n 0)) :=
  ⟨by rw [ints_length]; simp, .inr ⟨w.heap.size, n, _, rfl, hB, heap_alloc_new w _, Nat.le_refl _, by unfold maxLen; omega, by rw [(madeInts n).2]; omega, by rw [(madeInts n).1, List.take_of_length_le (by rw [ints_length]; simp)]⟩⟩
theorem own_madeF (w : World) (B n : Nat) (hB : B ≤ w.heap.size) (hn : n ≤ 200) : (w.alloc (.cells (madeCells (Value.agg #[.int .i64 0, .int .i64 0]).cells (n * 2)) 34 (0, 0))).ownsRow B 34 2 (.slice (some ⟨w.heap.size, 0, none⟩) n n) n (fates (List.replicate n (0, 0))) :=
  ⟨by rw [fates_length]; simp, .inr ⟨w.heap.size, n, _, rfl, hB, heap_alloc_new w _, Nat.le_refl _, by unfold maxLen; omega, (madeFates n).2, by rw [(madeFates n).1, List.take_of_length_le (by rw [fates_length]; simp)]⟩⟩
/-- The runner ahead of its fates. -/
structure PreAt (w0 w : World) (g : Nat) (A0 : Option Addr) (b0 c0 n : Nat) (l : List Job) (bis bran : Nat) : Prop where
  base : Below w0.heap.size w0 w
  g0 : w0.heap.size ≤ g
  blk : w.heap[g]? = some (.cells #[.slice A0 n c0, .slice (some ⟨bis, 0, none⟩) n n, .slice (some ⟨bran, 0, none⟩) n n, .slice none 0 0, .slice none 0 0, .slice none 0 0, .slice none 0 0, .int .i64 0] 94 (0, 0))
  jobs : RdJobs w A0 b0 0 l
  jblk : 0 < l.length → ∃ cs fz, w.heap[b0]? = some (.cells cs 39 fz)
  ois : w.ownsRow w0.heap.size 3 1 (.slice (some ⟨bis, 0, none⟩) n n) n (ints (List.replicate n 0))
  oran : w.ownsRow w0.heap.size 3 1 (.slice (some ⟨bran, 0, none⟩) n n) n (ints (List.replicate n 0))
  ne : bis ≠ bran
theorem own_below {w w' : World} {B n sz : Nat} {e : TypeId} {v : Value} {xs : List Value} (h : w.ownsRow B e sz v n xs) (hb : Below w.heap.size w w') : w'.ownsRow B e sz v n xs :=
  h.kept (row := none) (grown_of_below hb none) (by cases v.ownBlock <;> simp)
abbrev Z1 (n : Nat) : Obj := .cells (madeCells #[.int .i64 0] n) 3 (0, 0)
theorem two_made (w : World) (B n : Nat) (hB : B ≤ w.heap.size) (hn : n ≤ 200) :
    ((w.alloc (Z1 n)).alloc (Z1 n)).ownsRow B 3 1 (.slice (some ⟨w.heap.size, 0, none⟩) n n) n (ints (List.replicate n 0)) ∧ ((w.alloc (Z1 n)).alloc (Z1 n)).ownsRow B 3 1 (.slice (some ⟨w.heap.size + 1, 0, none⟩) n n) n (ints (List.replicate n 0)) := by
  have hs : (w.alloc (Z1 n)).heap.size = w.heap.size + 1 := by simp
  refine ⟨(own_madeI w B n hB hn).alloc _, ?_⟩
  have := own_madeI (w.alloc (Z1 n)) B n (by omega) hn
  rw [hs] at this
  exact this
theorem pre_of {w0 wy : World} {gx b1 c1 n bis bran : Nat} {A1 : Option Addr} {l : List Job} (hn : l.length = n) (hb : Below w0.heap.size w0 wy) (hg : gx = wy.heap.size) (hj : RdJobs wy A1 b1 0 l) (hjb : 0 < l.length → ∃ cs fz, wy.heap[b1]? = some (.cells cs 39 fz))
    (hi : wy.ownsRow w0.heap.size 3 1 (.slice (some ⟨bis, 0, none⟩) n n) n (ints (List.replicate n 0))) (hr : wy.ownsRow w0.heap.size 3 1 (.slice (some ⟨bran, 0, none⟩) n n) n (ints (List.replicate n 0))) (hne : bis ≠ bran) :
    PreAt w0 (wy.alloc (.cells #[.slice A1 l.length c1, .slice (some ⟨bis, 0, none⟩) n n, .slice (some ⟨bran, 0, none⟩) n n, .slice none 0 0, .slice none 0 0, .slice none 0 0, .slice none 0 0, .int .i64 0] 94 (0, 0))) gx A1 b1 c1 n l bis bran := by
  subst hg
  have hba := below_alloc (Below.refl _ wy) (.cells #[.slice A1 l.length c1, .slice (some ⟨bis, 0, none⟩) n n, .slice (some ⟨bran, 0, none⟩) n n, .slice none 0 0, .slice none 0 0, .slice none 0 0, .slice none 0 0, .int .i64 0] 94 (0, 0))
  exact ⟨below_alloc hb _, hb.size, by rw [← hn]; exact heap_alloc_new wy _, hj.below hba, fun h0 => by obtain ⟨cs, fz, e⟩ := hjb h0; exact ⟨cs, fz, by rw [hba.block _ (lt_of_heap e)]; exact e⟩, hi.alloc _, hr.alloc _, hne⟩
theorem jb_below {w w' : World} {b1 : Nat} {l : List Job} (h : 0 < l.length → ∃ cs fz, w.heap[b1]? = some (.cells cs 39 fz)) (hb : Below w.heap.size w w') : 0 < l.length → ∃ cs fz, w'.heap[b1]? = some (.cells cs 39 fz) :=
  fun h0 => by obtain ⟨cs, fz, e⟩ := h h0; exact ⟨cs, fz, by rw [hb.block _ (lt_of_heap e)]; exact e⟩
/-- The three places at which the copy may be made. -/
theorem pre1 {W0 w1 w2 : World} {n b1 : Nat} {A1 : Option Addr} {l : List Job} (hn20 : n < 20) (hb1 : Below W0.heap.size W0 w1) (hb2 : Below w1.drew.heap.size w1.drew w2) (hj2 : RdJobs w2 A1 b1 0 l) (hjb2 : 0 < l.length → ∃ cs fz, w2.heap[b1]? = some (.cells cs 39 fz)) :
    Below W0.heap.size W0 ((w2.alloc (Z1 n)).alloc (Z1 n)) ∧ w2.heap.size + 1 + 1 = ((w2.alloc (Z1 n)).alloc (Z1 n)).heap.size ∧ RdJobs ((w2.alloc (Z1 n)).alloc (Z1 n)) A1 b1 0 l ∧ (0 < l.length → ∃ cs fz, ((w2.alloc (Z1 n)).alloc (Z1 n)).heap[b1]? = some (.cells cs 39 fz)) ∧
    ((w2.alloc (Z1 n)).alloc (Z1 n)).ownsRow W0.heap.size 3 1 (.slice (some ⟨w2.heap.size, 0, none⟩) n n) n (ints (List.replicate n 0)) ∧ ((w2.alloc (Z1 n)).alloc (Z1 n)).ownsRow W0.heap.size 3 1 (.slice (some ⟨w2.heap.size + 1, 0, none⟩) n n) n (ints (List.replicate n 0)) := by
  have hq := below_then hb1 ((Below.refl _ _).drew.trans hb2)
  have hba := below_alloc (below_alloc (Below.refl _ w2) (Z1 n)) (Z1 n)
  obtain ⟨t1, t2⟩ := two_made w2 _ n hq.size (by omega)
  exact ⟨below_then hq hba, by simp, hj2.below hba, jb_below hjb2 hba, t1, t2⟩
theorem pre2 {W0 w1 w2 : World} {n b1 : Nat} {A1 : Option Addr} {l : List Job} (hn20 : n < 20) (hb1 : Below W0.heap.size W0 w1) (hb2 : Below (w1.alloc (Z1 n)).drew.heap.size (w1.alloc (Z1 n)).drew w2) (hj2 : RdJobs w2 A1 b1 0 l) (hjb2 : 0 < l.length → ∃ cs fz, w2.heap[b1]? = some (.cells cs 39 fz)) :
    Below W0.heap.size W0 (w2.alloc (Z1 n)) ∧ w2.heap.size + 1 = (w2.alloc (Z1 n)).heap.size ∧ RdJobs (w2.alloc (Z1 n)) A1 b1 0 l ∧ (0 < l.length → ∃ cs fz, (w2.alloc (Z1 n)).heap[b1]? = some (.cells cs 39 fz)) ∧
    (w2.alloc (Z1 n)).ownsRow W0.heap.size 3 1 (.slice (some ⟨w1.heap.size, 0, none⟩) n n) n (ints (List.replicate n 0)) ∧ (w2.alloc (Z1 n)).ownsRow W0.heap.size 3 1 (.slice (some ⟨w2.heap.size, 0, none⟩) n n) n (ints (List.replicate n 0)) ∧ w1.heap.size ≠ w2.heap.size := by
  have hq := below_then (below_alloc hb1 (Z1 n)) ((Below.refl _ _).drew.trans hb2)
  have hba := below_alloc (Below.refl _ w2) (Z1 n)
  have hs : w1.heap.size + 1 ≤ w2.heap.size := by
    have := hb2.size
    have h2 : (w1.alloc (Z1 n)).drew.heap.size = w1.heap.size + 1 := by show (w1.heap.push _).size = _; simp
    omega
  exact ⟨below_then hq hba, by simp, hj2.below hba, jb_below hjb2 hba, (own_below (own_madeI w1 _ n hb1.size (by omega)).drew hb2).alloc _, own_madeI w2 _ n hq.size (by omega), by omega⟩
theorem pre3 {W0 w1 w2 : World} {n b1 : Nat} {A1 : Option Addr} {l : List Job} (hn20 : n < 20) (hb1 : Below W0.heap.size W0 w1) (hb2 : Below ((w1.alloc (Z1 n)).alloc (Z1 n)).drew.heap.size ((w1.alloc (Z1 n)).alloc (Z1 n)).drew w2) (hj2 : RdJobs w2 A1 b1 0 l) (hjb2 : 0 < l.length → ∃ cs fz, w2.heap[b1]? = some (.cells cs 39 fz)) :
    Below W0.heap.size W0 w2 ∧ w2.ownsRow W0.heap.size 3 1 (.slice (some ⟨w1.heap.size, 0, none⟩) n n) n (ints (List.replicate n 0)) ∧ w2.ownsRow W0.heap.size 3 1 (.slice (some ⟨w1.heap.size + 1, 0, none⟩) n n) n (ints (List.replicate n 0)) := by
  have hq := below_then (below_alloc (below_alloc hb1 (Z1 n)) (Z1 n)) ((Below.refl _ _).drew.trans hb2)
  obtain ⟨t1, t2⟩ := two_made w1 _ n hb1.size (by omega)
  exact ⟨hq, own_below t1.drew hb2, own_below t2.drew hb2⟩
theorem lens_le {l : List Job} {t : Nat} {s : RS} (h : Rob.Lens l t s) (ht : t ≤ 10000) (hl : l.length < 20) : s.sh.length ≤ 4200000 ∧ s.ag.length ≤ 200000 := by
  have h1 : t * (l.length * (l.length + 1)) ≤ 10000 * (20 * 21) := Nat.mul_le_mul ht (Nat.mul_le_mul (by omega) (by omega))
  have h2 : t * l.length ≤ 10000 * 20 := Nat.mul_le_mul ht (by omega)
  have := h.sh
  have := h.ag
  omega
theorem lens_keeps {l : List Job} {t k : Nat} {s s' : RS} (h : Rob.Lens l t s) (ht : t ≤ 10000) (hl : l.length < 20) (hk : k ≤ l.length) (K : Rob.Keeps (k * (l.length + 1)) s s') : s'.sh.length ≤ 4201000 := by
  have := (lens_le h ht hl).1
  have h3 : k * (l.length + 1) ≤ 20 * 21 := Nat.mul_le_mul (by omega) (by omega)
  have := K.sh
  omega
theorem own_set4 {w : World} {rb B n sz : Nat} {e : TypeId} {v : Value} {xs : List Value} (hB : rb < B) (ho : w.ownsRow B e sz v n xs) (u0 u1 u2 u3 : Value) :
    ((((w.setCell ⟨rb, 0, none⟩ u0).setCell ⟨rb, 1, none⟩ u1).setCell ⟨rb, 2, none⟩ u2).setCell ⟨rb, 3, none⟩ u3).ownsRow rb e sz v n xs := by
  have h1 := ownsRow_setCell_below ho (a := ⟨rb, 0, none⟩) hB u0
  have h2 := ownsRow_setCell_below h1 (a := ⟨rb, 1, none⟩) hB u1
  have h3 := ownsRow_setCell_below h2 (a := ⟨rb, 2, none⟩) hB u2
  have h4 := ownsRow_setCell_below h3 (a := ⟨rb, 3, none⟩) hB u3
  exact Joins.ownsRow_le h4 (by omega)
/-- The runner, its fates made. -/
theorem PreAt.start {w0 w : World} {g b0 c0 n bis bran : Nat} {A0 : Option Addr} {l : List Job} (h : PreAt w0 w g A0 b0 c0 n l bis bran) (hn : n = l.length) (hn20 : n < 20) :
    RAt w0 ((w.alloc (.cells (madeCells (Value.agg #[.int .i64 0, .int .i64 0]).cells (n * 2)) 34 (0, 0))).setCell ⟨g, 4, none⟩ (.slice (some ⟨w.heap.size, 0, none⟩) n n)) g A0 b0 0 c0 l ⟨bis, n, bran, n, w.heap.size, n, none, 0, none, 0, none, 0⟩ 0 (Rob.start l) := by
  subst hn
  obtain ⟨W1, hW1⟩ : ∃ W1, W1 = w.alloc (.cells (madeCells (Value.agg #[.int .i64 0, .int .i64 0]).cells (l.length * 2)) 34 (0, 0)) := ⟨_, rfl⟩
  rw [← hW1]
  have hba : Below w.heap.size w W1 := by rw [hW1]; exact below_alloc (Below.refl _ w) _
  have hfa : W1.ownsRow w0.heap.size 34 2 (.slice (some ⟨w.heap.size, 0, none⟩) l.length l.length) l.length (fates (List.replicate l.length (0, 0))) := by
    rw [hW1]; exact own_madeF w _ _ h.base.size (by omega)
  have hblk : W1.heap[g]? = some (.cells #[.slice A0 l.length c0, .slice (some ⟨bis, 0, none⟩) l.length l.length, .slice (some ⟨bran, 0, none⟩) l.length l.length, .slice none 0 0, .slice none 0 0, .slice none 0 0, .slice none 0 0, .int .i64 0] 94 (0, 0)) := by
    rw [hba.block _ (lt_of_heap h.blk)]; exact h.blk
  have hgs := grown_set W1 g 4 (.slice (some ⟨w.heap.size, 0, none⟩) l.length l.length)
  have keep : ∀ {e : TypeId} {size n : Nat} {y : Value} {xs : List Value}, W1.ownsRow w0.heap.size e size y n xs → e ≠ 94 → (W1.setCell ⟨g, 4, none⟩ (.slice (some ⟨w.heap.size, 0, none⟩) l.length l.length)).ownsRow w0.heap.size e size y n xs :=
    fun ho he => ho.kept hgs (.inr (own_ne_block ho hblk he))
  have hjb := jb_below h.jblk hba
  have hjk : 0 < l.length → (W1.setCell ⟨g, 4, none⟩ (.slice (some ⟨w.heap.size, 0, none⟩) l.length l.length)).heap[b0]? = W1.heap[b0]? := fun h0 => by
    obtain ⟨cs, fz, e⟩ := hjb h0
    refine hgs.block b0 (lt_of_heap e) (fun hh => ?_)
    simp only [Option.some.injEq] at hh
    subst hh
    rw [e] at hblk
    simp only [Option.some.injEq, Obj.cells.injEq] at hblk
    exact absurd hblk.2.1 (by decide)
  have hnil : (W1.setCell ⟨g, 4, none⟩ (.slice (some ⟨w.heap.size, 0, none⟩) l.length l.length)).ownsRow w0.heap.size 3 1 (.slice none 0 0) 0 (ints []) := World.ownsRow_nil _ _ _ _
  refine ⟨(h.base.trans (hba.mono h.base.size)).grown hgs (Nat.le_trans h.base.size hba.size) (fun j hj => by cases hj; exact h.g0), h.g0, ?_, (h.jobs.below hba).same hgs.size hjk, fun h0 => by obtain ⟨cs, fz, e⟩ := hjb h0; exact ⟨cs, fz, by rw [hjk h0]; exact e⟩,
    keep (own_below h.ois hba) (by decide), keep (own_below h.oran hba) (by decide), keep hfa (by decide), hnil, hnil, hnil, ⟨h.ne, by simp [ob], by simp [ob], by simp [ob], by simp [ob], by simp [ob], by simp [ob], .inl rfl, .inl rfl, .inl rfl⟩⟩
  rw [heap_set_same W1 g 4 _ hblk]
  rfl
set_option maxHeartbeats 4000000 in
set_option maxRecDepth 100000 in
theorem robRun_any (A : Option Addr) (b off c : Nat) (l : List Job) (w : World) (R : RdJobs w A b off l) (hT : Tabs w) (hok : allOk l = true) (hl20 : l.length < 20) :
    Calls Tryd.prog 16 #[.slice A l.length c] w fun e w' => Below w.heap.size w w' ∧ ∃ v, e = .returned (.tuple #[outVal v (Rob.run l), .int .i64 0]) ∧ OutAt w' w.heap.size v (Rob.run l) := by
  have hn := R.len
  have mixed : Tryd.prog.follows .mixedOrders = true := by kernel_rfl
  obtain ⟨n, hn'⟩ : ∃ n, n = l.length := ⟨_, rfl⟩
  have HN := hide hn'
  have hall : ∀ W, Below w.heap.size w W → Calls Tryd.prog 41 #[.slice A n c] W fun e w' => e = .returned (.bool true) ∧ Below W.heap.size W w' := fun W hW => by
    have := all_any A b off c l W (R.below hW) (hT.below hW)
    rw [hok, ← hn'] at this
    exact this
  have hclone : ∀ W, Below w.heap.size w W → Calls Tryd.prog 51 #[.slice A n c] W (CloneIs l W) := fun W hW => by
    have := cloneJob_any A b off c l W (R.below hW) (by omega)
    rw [← hn'] at this
    exact this
  have hend : ∀ W, Below w.heap.size w W → Calls Tryd.prog 24 #[.slice A n c] W fun e w' => e = .returned (.int .i64 (endOf l)) ∧ Below W.heap.size W w' := fun W hW => by
    have := end_any A b off c l W (R.below hW) (hT.below hW) hok
    rw [← hn'] at this
    exact this
  have HALL : Aside0 _ := ⟨hall⟩
  have HCLONE : Aside0 _ := ⟨hclone⟩
  have HEND : Aside0 _ := ⟨hend⟩
  have hmk := made_int n (by omega)
  have HMK : Aside0 _ := ⟨hmk⟩
  rw [← hn'] at hn hl20
  clear hn' hall hclone hend hmk R
  rw [← HN.out]
  go_enter Tryd.func16, Tryd.ntmps16
  go_wp2_with (go_at_call 41; refine (HALL.out _ (below_alloc (Below.refl _ w) _)).mono ?_; rintro e w1 ⟨rfl, hb1⟩)
  have hmk := HMK.out
  have hb1' := below_then (below_alloc (Below.refl _ w) _) hb1
  have HA1 : Aside0 (Below w.heap.size w w1.drew) := ⟨hb1'.drew⟩
  have HA2 : Aside0 (Below w.heap.size w (w1.alloc (.cells (madeCells (Value.int .i64 0).cells n) 3 (0, 0))).drew) := ⟨(below_alloc hb1' _).drew⟩
  have HA3 : Aside0 (Below w.heap.size w ((w1.alloc (.cells (madeCells (Value.int .i64 0).cells n) 3 (0, 0))).alloc (.cells (madeCells (Value.int .i64 0).cells n) 3 (0, 0))).drew) := ⟨(below_alloc (below_alloc hb1' _) _).drew⟩
  clear hb1'
  go_cut [4] from 13 to 22 (fun x wx => ∃ gx A1 b1 c1 bis bran, x = .pointer (some ⟨gx, 0, none⟩) ∧ PreAt (w.alloc (.cells #[.slice none 0 0, .slice none 0 0, .slice none 0 0, .slice none 0 0] 28 (0, 0))) wx gx A1 b1 c1 n l bis bran)
  case first =>
    go_region_law (go_simp; go_at_call 51; refine (HCLONE.out _ (by first | exact HA1.out | exact HA2.out | exact HA3.out)).mono ?_; rintro e w2 ⟨A1, b1, c1, rfl, hb2, hj2, hjb2⟩)
    all_goals (go_wp2_with fail; go_meet)
    all_goals first
      | (obtain ⟨p1, p2, p3, p4, p5, p6⟩ := pre1 hl20 hb1 hb2 hj2 hjb2
         first
         | exact ⟨_, A1, b1, c1, _, _, rfl, pre_of HN.out.symm p1 p2 p3 p4 p5 p6 (by omega)⟩
         | exact ⟨_, A1, b1, c1, _, _, rfl, pre_of HN.out.symm p1 p2 p3 p4 p6 p5 (by omega)⟩)
      | (obtain ⟨p1, p2, p3, p4, p5, p6, p7⟩ := pre2 hl20 hb1 hb2 hj2 hjb2
         first
         | exact ⟨_, A1, b1, c1, _, _, rfl, pre_of HN.out.symm p1 p2 p3 p4 p5 p6 p7⟩
         | exact ⟨_, A1, b1, c1, _, _, rfl, pre_of HN.out.symm p1 p2 p3 p4 p6 p5 (Ne.symm p7)⟩)
      | (obtain ⟨p1, p5, p6⟩ := pre3 hl20 hb1 hb2 hj2 hjb2
         first
         | exact ⟨_, A1, b1, c1, _, _, rfl, pre_of HN.out.symm p1 rfl hj2 hjb2 p5 p6 (by omega)⟩
         | exact ⟨_, A1, b1, c1, _, _, rfl, pre_of HN.out.symm p1 rfl hj2 hjb2 p6 p5 (by omega)⟩)
  case rest =>
    obtain ⟨gx, A1, b1, c1, bis, bran, rfl, hP⟩ := hcut
    obtain ⟨W0, hW0⟩ : ∃ W0, W0 = w.alloc (.cells #[.slice none 0 0, .slice none 0 0, .slice none 0 0, .slice none 0 0] 28 (0, 0)) := ⟨_, rfl⟩
    have hb0 : Below w.heap.size w W0 := by rw [hW0]; exact below_alloc (Below.refl _ w) _
    rw [← hW0] at hP
    have hT0 := hT.below hb0
    have hc4 := cell_of_heap (o := 4) hP.blk
    have hc7 := cell_of_heap (o := 7) hP.blk
    have hf := fun o => free_of_heap (o := o) hP.blk
    have hf4 := hf 4
    have hf7 := hf 7
    have hgx := lt_of_heap hP.blk
    have hst := hP.start HN.out hl20
    rw [World.setCell_alloc_past _ _ _ _ (lt_of_heap hP.blk)] at hst
    have hmf := made_fate n (by omega)
    have HST : Aside0 _ := ⟨hst⟩
    have HB0 : Aside0 _ := ⟨hb0⟩
    have HW0 := hide hW0
    have HT0 : Aside0 _ := ⟨hT0⟩
    have hE0 := endOf_nonneg l
    have hcell4 : wc.cell? ⟨gx, 4, none⟩ = some (.slice none 0 0) := hc4
    have hcell7 : wc.cell? ⟨gx, 7, none⟩ = some (.int .i64 0) := hc7
    have hgne : gx ≠ wc.heap.size := by omega
    clear hP hc4 hc7 hf hst hb0 hW0 HA1 HA2 HA3 hmk hb1 hT0
    go_wp2_with (go_at_call 24; refine (HEND.out _ (below_then HB0.out HST.out.base)).mono ?_; rintro e w4 ⟨rfl, hb4⟩; have hR4 := HST.out.below hb4; obtain ⟨-, -, -, -, -, -, -, t7⟩ := hR4.cells; have ft7 := hR4.free 7; have HR4 : Aside0 _ := ⟨hR4⟩; clear hR4)
    have hokj : ∀ j ∈ l, j.ok = true := by
      have := hok
      unfold allOk allGood at this
      simp only [Bool.and_eq_true, List.all_eq_true] at this
      exact this.2
    have HOKJ := hide hokj
    have hE1 : endOf l ≤ 10000 := endOf_le (by omega) (fun j hj => (Job.ok_of_good (hokj j hj)).dl1)
    have hset := HR4.out.set_tick 0
    have HSET : Aside0 _ := ⟨hset⟩
    obtain ⟨E, hEE⟩ : ∃ E : Nat, endOf l = E := ⟨(endOf l).toNat, by omega⟩
    rw [hEE] at hE0 hE1
    rw [hEE]
    have HEE := hide hEE
    clear hset hokj hEE t7 ft7 hb4 hmf hcell4 hcell7 hgne hf4 hf7
    generalize w4.setCell ⟨gx, 7, none⟩ (.int .i64 0) = w5 at *
    generalize hv5 : (⟨bis, n, bran, n, wc.heap.size, n, none, 0, none, 0, none, 0⟩ : RV) = v5 at *
    clear hv5
    go_loopg [6] (E + 1) (fun gk _ wr => ∃ (tn : Nat) (sk : RS) (v' : RV), tn + gk = E + 1 ∧ tn ≤ E ∧ Aside0 (RAt W0 wr gx A1 b1 0 c1 l v' tn sk) ∧ Hid (sk = (List.range tn).foldl (Rob.tick l) (Rob.start l)) ∧ Hid (Rob.Lens l tn sk))
    case atStart => exact ⟨0, _, v5, by omega, by omega, HSET, rfl, Rob.lens_start l⟩
    case round =>
      obtain ⟨tn, sk, v', htn, htE, HR, HS, HL⟩ := hrel
      obtain ⟨d0, -, -, -, -, -, -, d7⟩ := HR.out.cells
      rw [← HN.out] at d0
      by_cases hlt : tn < E
      · have hltz : (tn : Int) < (E : Int) := by omega
        have F : Fine l tn sk := ⟨HOKJ.out, fun i hi => by have := HL.out.ran i; omega, by omega, by omega⟩
        have hlate := late_any HR.out HT0.out F
        have HLATE : Aside0 _ := ⟨hlate⟩
        have HLZ := hide hltz
        clear hlate
        go_wp2_with (go_at_call 52; refine HLATE.out.mono ?_; rintro e w6 ⟨rfl, hr6⟩; obtain ⟨f0, -, -, -, -, -, -, -⟩ := hr6.cells; rw [← HN.out] at f0; have HR6 : Aside0 _ := ⟨hr6⟩; clear hr6)
        clear hltz d0 d7
        go_loopw [6, 7, 55] (fun _ _ i wr2 => ∃ k : Nat, k ≤ n ∧ i = .int .i64 k ∧ ∃ (s2 : RS) (v2 : RV), Aside0 (RAt W0 wr2 gx A1 b1 0 c1 l v2 tn s2) ∧ Hid (s2 = (List.range k).foldl (Rob.arrive1 l tn) (Rob.late l tn sk))) (fun _ _ i _ => n - (intOf i).toNat)
        case atStart => exact ⟨0, by omega, rfl, _, v', HR6, rfl⟩
        case round =>
          obtain ⟨k, hk, rfl, s2, v2, HR2, HS2⟩ := hrel
          have hK : Rob.Keeps (k * (l.length + 1)) sk s2 := by
            have := (Rob.keeps_late l tn sk).trans (Rob.keeps_arrivals l tn k (Rob.late l tn sk))
            rw [← HS2.out, Nat.zero_add] at this
            exact this
          have hsh2 := lens_keeps HL.out (by omega) (by rw [← HN.out]; exact hl20) (by rw [← HN.out]; exact hk) hK
          have F2 : Fine l tn s2 := F.of_ran hK.ran
          have HK := hide hK
          clear hK
          by_cases hkn : k < n
          · have hkl : k < l.length := by rw [← HN.out]; exact hkn
            obtain ⟨hA1, ⟨j0, j1, j2, j3, j4, j5, j6, j7⟩, hbb, -⟩ := HR2.out.job k hkl
            subst hA1
            have hstep : (List.range (k + 1)).foldl (Rob.arrive1 l tn) (Rob.late l tn sk) = if (Rob.jb l k).rel = tn then Rob.arrive l tn s2 k else s2 := by rw [foldl_range_succ, ← HS2.out]; rfl
            have HSTEP := hide hstep
            clear hstep
            obtain ⟨j, hj⟩ : ∃ j, j = Rob.jb l k := ⟨_, rfl⟩
            have HJ := hide hj
            rw [← hj] at j0 j1 j2 j3 j4 j5 j6 j7 HSTEP
            simp only [Nat.zero_add] at j0 j1 j2 j3 j4 j5 j6 j7
            clear hj
            go_wp2_with fail
            obtain ⟨W7, hW, hb7, hk7, e0, e1, e2, e3, e4, e5, e6, e7⟩ := jbox wr j
            rw [hW]
            have hR7 := HR2.out.below hb7
            obtain ⟨-, -, -, -, -, -, -, x7⟩ := hR7.cells
            have hgx7 := hR7.glt
            have harr := fun W (hW : Below W7.heap.size W7 W) => arrive_any (hR7.below hW) HT0.out F2 (by rw [← HN.out]; exact hl20) k hkl (by omega)
            have HARR : Aside0 _ := ⟨harr⟩
            have HR7 : Aside0 _ := ⟨hR7⟩
            clear hW j0 j1 j2 j3 j4 j5 j6 j7 hbb hR7 harr e0 e2 e3 e4 e5 e6 e7
            simp only [Nat.zero_add] at e1
            by_cases hrt : j.rel = tn
            · have hrd : (j.rel == (tn : Int)) = true := beq_iff_eq.2 hrt
              have HRT := hide hrt
              rw [hrt] at e1
              clear hrd
              go_quiet (fail)
              go_wp2_with (go_at_call 53; refine (HARR.out _ (below_drewN (Below.refl _ _) _)).mono ?_; rintro e w8 ⟨rfl, v8, hr8⟩)
              go_roundw
              case rel => exact ⟨k + 1, by omega, by go_num, _, v8, ⟨hr8⟩, by show _ = _; rw [HSTEP.out, if_pos HRT.out]⟩
              case measure => simp [intOf]; omega
            · have hrd : (j.rel == (tn : Int)) = false := beq_eq_false_iff_ne.2 hrt
              have HRT := hide hrt
              go_quiet (fail)
              go_wp2
              go_roundw
              case rel => exact ⟨k + 1, by omega, by go_num, s2, v2, ⟨HR7.out.below (below_drewN (Below.refl _ _) _)⟩, by show _ = _; rw [HSTEP.out, if_neg HRT.out]⟩
              case measure => simp [intOf]; omega
          · obtain rfl : k = n := by omega
            rw [HN.out] at HS2
            have htick : (List.range (tn + 1)).foldl (Rob.tick l) (Rob.start l) = Rob.runTick l tn s2 := by
              rw [foldl_range_succ, ← HS.out, HS2.out]; rfl
            have HTICK := hide htick
            have hln : Rob.Lens l (tn + 1) (Rob.runTick l tn s2) := by
              have h1 := Rob.lens_tick l tn sk HL.out
              have e : Rob.tick l sk tn = Rob.runTick l tn s2 := by rw [HS2.out]; rfl
              rw [e] at h1; exact h1
            have HLN := hide hln
            clear hln
            have hrun := run_any HR2.out HT0.out F2 (fun i hi => by have := HL.out.ran_eq l HK.out.ran i; omega) (by rw [← HN.out]; exact hl20) (by rw [HK.out.tr, HL.out.tr]; omega) (by rw [HK.out.ag]; have := (lens_le HL.out (by omega) (by rw [← HN.out]; exact hl20)).2; omega)
            have HRUN : Aside0 _ := ⟨hrun⟩
            clear htick hrun
            go_wp2_with (go_at_call 54; refine HRUN.out.mono ?_; rintro e w9 ⟨rfl, v9, hr9⟩; obtain ⟨-, -, -, -, -, -, -, y7⟩ := hr9.cells; have fy7 := hr9.free 7; have HR9 : Aside0 _ := ⟨hr9.set_tick (tn + 1)⟩; clear hr9)
            go_roundg (gk - 1)
            case rel => exact ⟨tn + 1, _, v9, by omega, by omega, ⟨by rw [show (((tn + 1 : Nat) : Int)) = (tn : Int) + 1 by omega]; exact HR9.out⟩, HTICK.out.symm, HLN⟩
            case measure => omega
      · obtain rfl : tn = E := by omega
        have hrun : (List.range l.length).foldl (Rob.last1 tn) sk = Rob.run l := by
          unfold Rob.run
          rw [HEE.out, Int.toNat_natCast, ← HS.out]
        have HRUN := hide hrun
        have hbr : ∀ wr2, Below W0.heap.size W0 wr2 → wr2.heap[w.heap.size]? = some (.cells #[.slice none 0 0, .slice none 0 0, .slice none 0 0, .slice none 0 0] 28 (0, 0)) := fun wr2 hb => by
          rw [hb.block _ (by rw [HW0.out]; simp), HW0.out]; exact heap_alloc_new w _
        have HBR : Aside0 _ := ⟨hbr⟩
        clear hrun hbr
        go_wp2_with fail
        clear d0 d7
        go_loopw [8, 75] (fun _ i wr2 => ∃ k : Nat, k ≤ n ∧ i = .int .i64 k ∧ ∃ s3 : RS, Aside0 (RAt W0 wr2 gx A1 b1 0 c1 l v' tn s3) ∧ Hid (s3 = (List.range k).foldl (Rob.last1 tn) sk)) (fun _ i _ => n - (intOf i).toNat)
        case atStart => exact ⟨0, by omega, rfl, sk, HR, rfl⟩
        case round =>
          obtain ⟨k, hk, rfl, s3, HR3, HS3⟩ := hrel
          by_cases hkn : k < n
          · have hkl : k < l.length := by rw [← HN.out]; exact hkn
            have hopen : Aside0 _ := ⟨open_any HR3.out k hkl 2⟩
            have hstep : (List.range (k + 1)).foldl (Rob.last1 tn) sk = if Rob.opn s3 k 2 then Rob.say s3 k 3 tn else s3 := by rw [foldl_range_succ, ← HS3.out]; rfl
            have HSTEP := hide hstep
            clear hstep
            cases ho : Rob.opn s3 k 2 with
            | false =>
              rw [ho] at hopen HSTEP
              clear ho
              go_wp2_with (go_at_call 55; refine hopen.out.mono ?_; rintro e w' ⟨rfl, rfl⟩)
              go_roundw
              case rel => exact ⟨k + 1, by omega, by go_num, s3, HR3, by show _ = _; rw [HSTEP.out]; rfl⟩
              case measure => simp [intOf]; omega
            | true =>
              rw [ho] at hopen HSTEP
              clear ho
              have hsay := say_any HR3.out k hkl 3 0 (by omega) (by omega) (by omega) (by omega)
              rw [Int.add_zero] at hsay
              have HSAY : Aside0 _ := ⟨hsay⟩
              clear hsay
              go_wp2_with (first | (go_at_call 55; refine hopen.out.mono ?_; rintro e w' ⟨rfl, rfl⟩) | (go_at_call 56; refine HSAY.out.mono ?_; rintro e w8 ⟨rfl, hr8, hg8⟩))
              go_roundw
              case rel => exact ⟨k + 1, by omega, by go_num, _, ⟨hr8⟩, by show _ = _; rw [HSTEP.out]; rfl⟩
              case measure => simp [intOf]; omega
          · obtain rfl : k = n := by omega
            rw [HN.out, HRUN.out] at HS3
            have hbk := HBR.out wr HR3.out.base
            have q0 := cell_of_heap (o := 0) hbk
            have q1 := cell_of_heap (o := 1) hbk
            have q2 := cell_of_heap (o := 2) hbk
            have q3 := cell_of_heap (o := 3) hbk
            have hfr := fun o => free_of_heap (o := o) hbk
            have p0 := hfr 0
            have p1 := hfr 1
            have p2 := hfr 2
            have p3 := hfr 3
            obtain ⟨-, -, -, x3, x4, x5, x6, -⟩ := HR3.out.cells
            have hrb := lt_of_heap hbk
            replace q0 : wr.cell? ⟨w.heap.size, 0, none⟩ = some (.slice none 0 0) := q0
            replace q1 : wr.cell? ⟨w.heap.size, 1, none⟩ = some (.slice none 0 0) := q1
            replace q2 : wr.cell? ⟨w.heap.size, 2, none⟩ = some (.slice none 0 0) := q2
            replace q3 : wr.cell? ⟨w.heap.size, 3, none⟩ = some (.slice none 0 0) := q3
            clear hfr hbk
            go_wp2
            have hbk := HBR.out wr HR3.out.base
            have hs1 := heap_set_same wr w.heap.size 0 (.slice v'.Atr s3.tr.length v'.ctr) hbk
            have hs2 := heap_set_same _ w.heap.size 1 (.slice (some ⟨v'.bfa, 0, none⟩) l.length v'.cfa) hs1
            have hs3 := heap_set_same _ w.heap.size 2 (.slice v'.Ash s3.sh.length v'.csh) hs2
            have hs4 := heap_set_same _ w.heap.size 3 (.slice v'.Aag s3.ag.length v'.cag) hs3
            have hW0s : W0.heap.size = w.heap.size + 1 := by rw [HW0.out]; simp
            have hrbB : w.heap.size < W0.heap.size := by omega
            have hbelow : Below w.heap.size w ((((wr.setCell ⟨w.heap.size, 0, none⟩ (.slice v'.Atr s3.tr.length v'.ctr)).setCell ⟨w.heap.size, 1, none⟩ (.slice (some ⟨v'.bfa, 0, none⟩) l.length v'.cfa)).setCell ⟨w.heap.size, 2, none⟩ (.slice v'.Ash s3.sh.length v'.csh)).setCell ⟨w.heap.size, 3, none⟩ (.slice v'.Aag s3.ag.length v'.cag)) := by
              have hb := below_then HB0.out HR3.out.base
              exact (((hb.setCell (Nat.le_refl _) _).setCell (Nat.le_refl _) _).setCell (Nat.le_refl _) _).setCell (Nat.le_refl _) _
            have hOut : OutAt ((((wr.setCell ⟨w.heap.size, 0, none⟩ (.slice v'.Atr s3.tr.length v'.ctr)).setCell ⟨w.heap.size, 1, none⟩ (.slice (some ⟨v'.bfa, 0, none⟩) l.length v'.cfa)).setCell ⟨w.heap.size, 2, none⟩ (.slice v'.Ash s3.sh.length v'.csh)).setCell ⟨w.heap.size, 3, none⟩ (.slice v'.Aag s3.ag.length v'.cag)) w.heap.size v' s3 := ⟨own_set4 hrbB (by rw [HR3.out.lfa]; exact HR3.out.ofa) _ _ _ _, own_set4 hrbB HR3.out.otr _ _ _ _, own_set4 hrbB HR3.out.osh _ _ _ _, own_set4 hrbB HR3.out.oag _ _ _ _⟩
            have z0 := cell_of_heap (o := 0) hs4
            have z1 := cell_of_heap (o := 1) hs4
            have z2 := cell_of_heap (o := 2) hs4
            have z3 := cell_of_heap (o := 3) hs4
            have hlfa : l.length = s3.fa.length := HR3.out.lfa.symm
            have HOUT : Aside0 _ := ⟨And.intro hbelow hOut⟩
            clear hs1 hs2 hs3 hs4 hbk hbelow hOut
            generalize ((((wr.setCell ⟨w.heap.size, 0, none⟩ (.slice v'.Atr s3.tr.length v'.ctr)).setCell ⟨w.heap.size, 1, none⟩ (.slice (some ⟨v'.bfa, 0, none⟩) l.length v'.cfa)).setCell ⟨w.heap.size, 2, none⟩ (.slice v'.Ash s3.sh.length v'.csh)).setCell ⟨w.heap.size, 3, none⟩ (.slice v'.Aag s3.ag.length v'.cag)) = Wf at *
            replace z0 : Wf.cell? ⟨w.heap.size, 0, none⟩ = some (.slice v'.Atr s3.tr.length v'.ctr) := z0
            replace z1 : Wf.cell? ⟨w.heap.size, 1, none⟩ = some (.slice (some ⟨v'.bfa, 0, none⟩) l.length v'.cfa) := z1
            replace z2 : Wf.cell? ⟨w.heap.size, 2, none⟩ = some (.slice v'.Ash s3.sh.length v'.csh) := z2
            replace z3 : Wf.cell? ⟨w.heap.size, 3, none⟩ = some (.slice v'.Aag s3.ag.length v'.cag) := z3
            refine bodyPost_ret (v := .tuple #[outVal v' s3, .int .i64 0]) ?_ rfl ⟨HOUT.out.1, v', by rw [← HS3.out], by rw [← HS3.out]; exact HOUT.out.2⟩
            rw [hlfa] at z1
            unfold outVal
            simp [results, show Tryd.f16.results = #[.cell 2 28, .tmp 3] from rfl, go_sem, z0, z1, z2, z3]
end Go.Proofs.YtjgegnjclmkpeaaDoor
