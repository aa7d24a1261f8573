/- The Dover runner in memory: what its cells hold; what a store, an append turns. -/
import Derived.Test.YtjgegnjclmkpeaaDoorTraceGood
import Derived.Test.YtjgegnjclmkpeaaDoorDovModel
set_option linter.unusedVariables false
set_option linter.unusedSimpArgs false
namespace Go.Proofs.YtjgegnjclmkpeaaDoor
open Go.RowKit

/-- The slices of a runner. -/
structure DV where
  bor : Nat
  cor : Nat
  bran : Nat
  cran : Nat
  bfa : Nat
  cfa : Nat
  Atr : Option Addr
  ctr : Nat
  Aal : Option Addr
  cal : Nat
/-- The rows of whole numbers lie apart. -/
structure DSep (v : DV) : Prop where
  nr : v.bor ≠ v.bran
  ot : ob v.Atr ≠ some v.bor
  oa : ob v.Aal ≠ some v.bor
  rt : ob v.Atr ≠ some v.bran
  ra : ob v.Aal ≠ some v.bran
  ta : ob v.Atr = none ∨ ob v.Atr ≠ ob v.Aal
/-- The places by deadline, as whole numbers. -/
def ordI (l : List Job) : List Int := (Rob.byDl l).map fun i : Nat => (i : Int)
theorem ordI_len (l : List Job) : (ordI l).length = l.length := by
  unfold ordI Rob.byDl
  rw [List.length_map, (isort_perm _ _).length_eq, List.length_range]
/-- The runner's nine cells. -/
def dcells (p q : Int) (A0 : Option Addr) (n c0 : Nat) (v : DV) (s : DS) (t : Int) : Array Value :=
  #[.int .i64 p, .int .i64 q, .slice A0 n c0, .slice (some ⟨v.bor, 0, none⟩) n v.cor, .slice (some ⟨v.bran, 0, none⟩) n v.cran, .slice v.Atr s.tr.length v.ctr, .slice (some ⟨v.bfa, 0, none⟩) n v.cfa, .slice v.Aal s.al.length v.cal, .int .i64 t]
/-- A runner at block g: w0 is the world at the beginning of the run. -/
structure DAt (w0 w : World) (g : Nat) (p q : Int) (A0 : Option Addr) (b0 o0 c0 : Nat) (l : List Job) (v : DV) (t : Int) (s : DS) : Prop where
  base : Below w0.heap.size w0 w
  g0 : w0.heap.size ≤ g
  blk : w.heap[g]? = some (.cells (dcells p q A0 l.length c0 v s t) 108 (0, 0))
  jobs : RdJobs w A0 b0 o0 l
  jblk : 0 < l.length → ∃ cs fz, w.heap[b0]? = some (.cells cs 39 fz)
  oor : w.ownsRow w0.heap.size 3 1 (.slice (some ⟨v.bor, 0, none⟩) l.length v.cor) l.length (ints (ordI l))
  oran : w.ownsRow w0.heap.size 3 1 (.slice (some ⟨v.bran, 0, none⟩) l.length v.cran) l.length (ints s.ran)
  ofa : w.ownsRow w0.heap.size 34 2 (.slice (some ⟨v.bfa, 0, none⟩) l.length v.cfa) l.length (fates s.fa)
  otr : w.ownsRow w0.heap.size 3 1 (.slice v.Atr s.tr.length v.ctr) s.tr.length (ints s.tr)
  oal : w.ownsRow w0.heap.size 3 1 (.slice v.Aal s.al.length v.cal) s.al.length (ints s.al)
  sep : DSep v

section
variable {w0 w w' w3 : World} {g : Nat} {p q : Int} {A0 : Option Addr} {b0 o0 c0 : Nat} {l : List Job} {v : DV} {t : Int} {s : DS}
theorem DAt.lran (h : DAt w0 w g p q A0 b0 o0 c0 l v t s) : s.ran.length = l.length := by have := h.oran.1; rw [ints_length] at this; omega
theorem DAt.lfa (h : DAt w0 w g p q A0 b0 o0 c0 l v t s) : s.fa.length = l.length := by have := h.ofa.1; rw [fates_length] at this; omega
theorem DAt.glt (h : DAt w0 w g p q A0 b0 o0 c0 l v t s) : g < w.heap.size := lt_of_heap h.blk
theorem DAt.tabs (h : DAt w0 w g p q A0 b0 o0 c0 l v t s) (hT : Tabs w0) : Tabs w := hT.below h.base
/-- What the runner's cells hold. -/
theorem DAt.cells (h : DAt w0 w g p q A0 b0 o0 c0 l v t s) :
    w.cell? ⟨g, 0, none⟩ = some (.int .i64 p) ∧ w.cell? ⟨g, 1, none⟩ = some (.int .i64 q) ∧ w.cell? ⟨g, 2, none⟩ = some (.slice A0 l.length c0) ∧ w.cell? ⟨g, 3, none⟩ = some (.slice (some ⟨v.bor, 0, none⟩) l.length v.cor) ∧
    w.cell? ⟨g, 4, none⟩ = some (.slice (some ⟨v.bran, 0, none⟩) l.length v.cran) ∧ w.cell? ⟨g, 5, none⟩ = some (.slice v.Atr s.tr.length v.ctr) ∧ w.cell? ⟨g, 6, none⟩ = some (.slice (some ⟨v.bfa, 0, none⟩) l.length v.cfa) ∧
    w.cell? ⟨g, 7, none⟩ = some (.slice v.Aal s.al.length v.cal) ∧ w.cell? ⟨g, 8, none⟩ = some (.int .i64 t) := by
  have hc := fun o => cell_of_heap (o := o) h.blk
  exact ⟨hc 0, hc 1, hc 2, hc 3, hc 4, hc 5, hc 6, hc 7, hc 8⟩
theorem DAt.free (h : DAt w0 w g p q A0 b0 o0 c0 l v t s) (o : Nat) : w.frozen? ⟨g, o, none⟩ = false := free_of_heap h.blk
theorem DAt.cor (h : DAt w0 w g p q A0 b0 o0 c0 l v t s) (i : Nat) (hi : i < l.length) : w.cell? ⟨v.bor, i, none⟩ = some (.int .i64 ((ordI l).getD i 0)) := own_int h.oor i hi
theorem DAt.cran (h : DAt w0 w g p q A0 b0 o0 c0 l v t s) (i : Nat) (hi : i < l.length) : w.cell? ⟨v.bran, i, none⟩ = some (.int .i64 (Dov.ranAt s i)) := own_int h.oran i hi
theorem DAt.cfa (h : DAt w0 w g p q A0 b0 o0 c0 l v t s) (i : Nat) (hi : i < l.length) : w.cell? ⟨v.bfa, i * 2, none⟩ = some (.int .i64 (Dov.kindAt s i)) ∧ w.cell? ⟨v.bfa, i * 2 + 1, none⟩ = some (.int .i64 (s.fa.getD i (0, 0)).2) := own_fate h.ofa i hi
theorem DAt.ltor (h : DAt w0 w g p q A0 b0 o0 c0 l v t s) : v.bor < w.heap.size := own_size h.oor rfl
theorem DAt.ltran (h : DAt w0 w g p q A0 b0 o0 c0 l v t s) : v.bran < w.heap.size := own_size h.oran rfl
theorem DAt.ltfa (h : DAt w0 w g p q A0 b0 o0 c0 l v t s) : v.bfa < w.heap.size := own_size h.ofa rfl
theorem DAt.job (h : DAt w0 w g p q A0 b0 o0 c0 l v t s) (i : Nat) (hi : i < l.length) : A0 = some ⟨b0, o0, none⟩ ∧ Row w b0 (o0 + i * 8) (Rob.jb l i) ∧ b0 < w.heap.size ∧ (Rob.jb l i).name.size ≤ 140737488351232 :=
  ⟨h.jobs.addr (by omega), h.jobs.row i hi, h.jobs.lt (by omega), h.jobs.names _ (Rob.jb_mem hi)⟩
/-- New blocks turn nothing. -/
theorem DAt.below (h : DAt w0 w g p q A0 b0 o0 c0 l v t s) (hb : Below w.heap.size w w') : DAt w0 w' g p q A0 b0 o0 c0 l v t s where
  base := h.base.trans (hb.mono h.base.size)
  g0 := h.g0
  blk := by rw [hb.block g h.glt]; exact h.blk
  jobs := h.jobs.below hb
  jblk := fun h0 => by obtain ⟨cs, fz, e⟩ := h.jblk h0; exact ⟨cs, fz, by rw [hb.block _ (lt_of_heap e)]; exact e⟩
  oor := h.oor.kept (grown_of_below hb none) (.inr (by simp [Value.ownBlock]))
  oran := h.oran.kept (grown_of_below hb none) (.inr (by simp [Value.ownBlock]))
  ofa := h.ofa.kept (grown_of_below hb none) (.inr (by simp [Value.ownBlock]))
  otr := h.otr.kept (grown_of_below hb none) (by rw [ob_slice]; cases ob v.Atr <;> simp)
  oal := h.oal.kept (grown_of_below hb none) (by rw [ob_slice]; cases ob v.Aal <;> simp)
  sep := h.sep
/-- A block that is written is none of the others. -/
theorem DAt.bases (h : DAt w0 w g p q A0 b0 o0 c0 l v t s) (k : Nat) (hk : w0.heap.size ≤ k) (hg : w.grownBy w' (some k)) : Below w0.heap.size w0 w' :=
  h.base.grown hg h.base.size (fun j hj => by cases hj; exact hk)
theorem DAt.jobs_kept (h : DAt w0 w g p q A0 b0 o0 c0 l v t s) (k : Nat) {cs : Array Value} {e : TypeId} {fz : Nat × Nat} (hk : w.heap[k]? = some (.cells cs e fz)) (he : e ≠ 39) (hg : w.grownBy w' (some k)) :
    RdJobs w' A0 b0 o0 l ∧ (0 < l.length → ∃ cs fz, w'.heap[b0]? = some (.cells cs 39 fz)) := by
  have hkeep : 0 < l.length → w'.heap[b0]? = w.heap[b0]? := fun h0 => by
    obtain ⟨cs', fz', e'⟩ := h.jblk h0
    refine hg.block b0 (lt_of_heap e') (fun hh => ?_)
    simp only [Option.some.injEq] at hh
    subst hh
    rw [e'] at hk
    simp only [Option.some.injEq, Obj.cells.injEq] at hk
    exact he hk.2.1.symm
  exact ⟨h.jobs.same hg.size hkeep, fun h0 => by obtain ⟨cs', fz', e'⟩ := h.jblk h0; exact ⟨cs', fz', by rw [hkeep h0]; exact e'⟩⟩
theorem DAt.blk_kept (h : DAt w0 w g p q A0 b0 o0 c0 l v t s) (k : Nat) {cs : Array Value} {e : TypeId} {fz : Nat × Nat} (hk : w.heap[k]? = some (.cells cs e fz)) (he : e ≠ 108) (hg : w.grownBy w' (some k)) :
    w'.heap[g]? = w.heap[g]? := by
  refine hg.block g h.glt (fun hh => ?_)
  simp only [Option.some.injEq] at hh
  subst hh
  rw [h.blk] at hk
  simp only [Option.some.injEq, Obj.cells.injEq] at hk
  exact he hk.2.1.symm
/-- ran[i] = x. -/
theorem DAt.set_ran (h : DAt w0 w g p q A0 b0 o0 c0 l v t s) (i : Nat) (x : Int) : DAt w0 (w.setCell ⟨v.bran, i, none⟩ (.int .i64 x)) g p q A0 b0 o0 c0 l v t { s with ran := s.ran.set i x } := by
  have hg := grown_set w v.bran i (.int .i64 x)
  obtain ⟨cur, hk⟩ := own_type h.oran (g := v.bran) rfl
  obtain ⟨h1, h2⟩ := h.jobs_kept v.bran hk (by decide) hg
  exact ⟨h.bases _ (own_ge h.oran rfl) hg, h.g0, by rw [h.blk_kept v.bran hk (by decide) hg]; exact h.blk, h1, h2,
    h.oor.kept hg (.inr (by simp only [Value.ownBlock, ne_eq, Option.some.injEq]; exact h.sep.nr)),
    by have := (h.oran.stored i (.int .i64 x)).1; rwa [ints_set] at this,
    h.ofa.kept hg (.inr (own_ne_block h.ofa hk (by decide))),
    h.otr.kept hg (.inr (by rw [ob_slice]; exact h.sep.rt)), h.oal.kept hg (.inr (by rw [ob_slice]; exact h.sep.ra)), h.sep⟩
/-- fates[i] = {k, a}. -/
theorem DAt.set_fa (h : DAt w0 w g p q A0 b0 o0 c0 l v t s) (i : Nat) (k a : Int) : DAt w0 ((w.setCell ⟨v.bfa, i * 2, none⟩ (.int .i64 k)).setCell ⟨v.bfa, i * 2 + 1, none⟩ (.int .i64 a)) g p q A0 b0 o0 c0 l v t { s with fa := s.fa.set i (k, a) } := by
  have hg := grown_trans (grown_set w v.bfa (i * 2) (.int .i64 k)) (grown_set _ v.bfa (i * 2 + 1) (.int .i64 a))
  obtain ⟨cur, hk⟩ := own_type h.ofa (g := v.bfa) rfl
  obtain ⟨h1, h2⟩ := h.jobs_kept v.bfa hk (by decide) hg
  exact ⟨h.bases _ (own_ge h.ofa rfl) hg, h.g0, by rw [h.blk_kept v.bfa hk (by decide) hg]; exact h.blk, h1, h2,
    h.oor.kept hg (.inr (own_ne_block h.oor hk (by decide))), h.oran.kept hg (.inr (own_ne_block h.oran hk (by decide))),
    by have := ((h.ofa.stored (i * 2) (.int .i64 k)).1.stored (i * 2 + 1) (.int .i64 a)).1; rwa [fates_set] at this,
    h.otr.kept hg (.inr (own_ne_block h.otr hk (by decide))), h.oal.kept hg (.inr (own_ne_block h.oal hk (by decide))), h.sep⟩
/-- A cell of the runner itself is written: what else lies there is as it was. -/
theorem DAt.set_g (h : DAt w0 w g p q A0 b0 o0 c0 l v t s) (o : Nat) (u : Value) :
    Below w0.heap.size w0 (w.setCell ⟨g, o, none⟩ u) ∧ (w.setCell ⟨g, o, none⟩ u).heap[g]? = some (.cells ((dcells p q A0 l.length c0 v s t).setIfInBounds o u) 108 (0, 0)) ∧ RdJobs (w.setCell ⟨g, o, none⟩ u) A0 b0 o0 l ∧
    (0 < l.length → ∃ cs fz, (w.setCell ⟨g, o, none⟩ u).heap[b0]? = some (.cells cs 39 fz)) ∧
    (∀ {e : TypeId} {size n : Nat} {x : Value} {xs : List Value}, w.ownsRow w0.heap.size e size x n xs → e ≠ 108 → (w.setCell ⟨g, o, none⟩ u).ownsRow w0.heap.size e size x n xs) := by
  have hg := grown_set w g o u
  obtain ⟨h1, h2⟩ := h.jobs_kept g h.blk (by decide) hg
  exact ⟨h.bases _ h.g0 hg, heap_set_same w g o u h.blk, h1, h2, fun ho he => ho.kept hg (.inr (own_ne_block ho h.blk he))⟩
/-- tick = x. -/
theorem DAt.set_tick (h : DAt w0 w g p q A0 b0 o0 c0 l v t s) (x : Int) : DAt w0 (w.setCell ⟨g, 8, none⟩ (.int .i64 x)) g p q A0 b0 o0 c0 l v x s := by
  obtain ⟨h1, h2, h3, h4, h5⟩ := h.set_g 8 (.int .i64 x)
  exact ⟨h1, h.g0, h2, h3, h4, h5 h.oor (by decide), h5 h.oran (by decide), h5 h.ofa (by decide), h5 h.otr (by decide), h5 h.oal (by decide), h.sep⟩
/-- What lies elsewhere is as it was when a row of whole numbers has grown. -/
theorem DAt.row_grown (h : DAt w0 w g p q A0 b0 o0 c0 l v t s) {A : Option Addr} {n c : Nat} {xs : List Value} (ho : w.ownsRow w0.heap.size 3 1 (.slice A n c) n xs) (hg : w.grownBy w3 (ob A)) :
    Below w0.heap.size w0 w3 ∧ w3.heap[g]? = w.heap[g]? ∧ RdJobs w3 A0 b0 o0 l ∧ (0 < l.length → ∃ cs fz, w3.heap[b0]? = some (.cells cs 39 fz)) ∧
      w3.ownsRow w0.heap.size 34 2 (.slice (some ⟨v.bfa, 0, none⟩) l.length v.cfa) l.length (fates s.fa) := by
  cases ho2 : ob A with
  | none =>
    rw [ho2] at hg
    have hb : Below w.heap.size w w3 := ⟨hg.os, hg.tape, hg.output, hg.size, fun k hk => hg.block k hk (by simp)⟩
    have h' := h.below hb
    exact ⟨h'.base, hb.block g h.glt, h'.jobs, h'.jblk, h'.ofa⟩
  | some k =>
    rw [ho2] at hg
    have hk : (Value.slice A n c).ownBlock = some k := by rw [ob_slice]; exact ho2
    obtain ⟨cur, hcur⟩ := own_type ho hk
    obtain ⟨h1, h2⟩ := h.jobs_kept k hcur (by decide) hg
    exact ⟨h.bases _ (own_ge ho hk) hg, h.blk_kept k hcur (by decide) hg, h1, h2, h.ofa.kept hg (.inr (own_ne_block h.ofa hcur (by decide)))⟩
theorem DAt.row_cells (h : DAt w0 w g p q A0 b0 o0 c0 l v t s) {A : Option Addr} {n c : Nat} {xs : List Value} (ho : w.ownsRow w0.heap.size 3 1 (.slice A n c) n xs) (hg : w.grownBy w3 (ob A)) (o : Nat) :
    w3.cell? ⟨g, o, none⟩ = w.cell? ⟨g, o, none⟩ ∧ w3.frozen? ⟨g, o, none⟩ = false := by
  obtain ⟨-, h2, -, -, -⟩ := h.row_grown ho hg
  exact ⟨World.cell?_of_block (a := ⟨g, o, none⟩) h2, free_of_heap (h2.trans h.blk)⟩
/-- An element is appended to tr. -/
theorem DAt.push_tr (h : DAt w0 w g p q A0 b0 o0 c0 l v t s) {g2 cap2 : Nat} {x : Int} (hg : w.grownBy w3 (ob v.Atr))
    (ho : w3.ownsRow w0.heap.size 3 1 (.slice (some ⟨g2, 0, none⟩) (s.tr.length + 1) cap2) (s.tr.length + 1) (ints s.tr ++ [.int .i64 x])) (hat : ob v.Atr = some g2 ∨ w.heap.size ≤ g2) :
    DAt w0 (w3.setCell ⟨g, 5, none⟩ (.slice (some ⟨g2, 0, none⟩) (s.tr.length + 1) cap2)) g p q A0 b0 o0 c0 l { v with Atr := some ⟨g2, 0, none⟩, ctr := cap2 } t { s with tr := s.tr ++ [x] } := by
  obtain ⟨h1, h2, h3, h4, h5⟩ := h.row_grown h.otr hg
  have hblk := h2.trans h.blk
  have hgs := grown_set w3 g 5 (.slice (some ⟨g2, 0, none⟩) (s.tr.length + 1) cap2)
  have hl : (s.tr ++ [x]).length = s.tr.length + 1 := by simp
  rw [← ints_snoc, ← hl] at ho
  have keep : ∀ {e : TypeId} {size n : Nat} {y : Value} {xs : List Value}, w3.ownsRow w0.heap.size e size y n xs → e ≠ 108 → (w3.setCell ⟨g, 5, none⟩ (.slice (some ⟨g2, 0, none⟩) (s.tr.length + 1) cap2)).ownsRow w0.heap.size e size y n xs :=
    fun ho he => ho.kept hgs (.inr (own_ne_block ho hblk he))
  have hjk : 0 < l.length → (w3.setCell ⟨g, 5, none⟩ (.slice (some ⟨g2, 0, none⟩) (s.tr.length + 1) cap2)).heap[b0]? = w3.heap[b0]? := fun h0 => by
    obtain ⟨cs, fz, e⟩ := h4 h0
    refine hgs.block b0 (lt_of_heap e) (fun hh => ?_)
    simp only [Option.some.injEq] at hh
    subst hh
    rw [e] at hblk
    simp only [Option.some.injEq, Obj.cells.injEq] at hblk
    exact absurd hblk.2.1 (by decide)
  have hnew : ob v.Atr = none → w.heap.size ≤ g2 := fun hh => hat.elim (fun e => by rw [hh] at e; cases e) id
  refine ⟨h1.grown hgs h1.size (fun j hj => by cases hj; exact h.g0), h.g0, ?_, h3.same hgs.size hjk, fun h0 => by obtain ⟨cs, fz, e⟩ := h4 h0; exact ⟨cs, fz, by rw [hjk h0]; exact e⟩,
    keep (h.oor.kept hg (.inr (by simp only [Value.ownBlock]; exact (Ne.symm h.sep.ot)))) (by decide), keep (h.oran.kept hg (.inr (by simp only [Value.ownBlock]; exact (Ne.symm h.sep.rt)))) (by decide), keep h5 (by decide), ?_, ?_, ?_⟩
  · rw [heap_set_same w3 g 5 _ hblk, ← hl]; rfl
  · exact keep ho (by decide)
  · exact keep (h.oal.kept hg (by rw [ob_slice]; exact apart_sym h.sep.ta)) (by decide)
  · constructor
    · exact h.sep.nr
    · exact new_apart hat h.ltor h.sep.ot
    · exact h.sep.oa
    · exact new_apart hat h.ltran h.sep.rt
    · exact h.sep.ra
    · exact .inr (Ne.symm (new_apart2 hat h.oal (h.sep.ta.imp id Ne.symm) hnew))
/-- An element is appended to al. -/
theorem DAt.push_al (h : DAt w0 w g p q A0 b0 o0 c0 l v t s) {g2 cap2 : Nat} {x : Int} (hg : w.grownBy w3 (ob v.Aal))
    (ho : w3.ownsRow w0.heap.size 3 1 (.slice (some ⟨g2, 0, none⟩) (s.al.length + 1) cap2) (s.al.length + 1) (ints s.al ++ [.int .i64 x])) (hat : ob v.Aal = some g2 ∨ w.heap.size ≤ g2) :
    DAt w0 (w3.setCell ⟨g, 7, none⟩ (.slice (some ⟨g2, 0, none⟩) (s.al.length + 1) cap2)) g p q A0 b0 o0 c0 l { v with Aal := some ⟨g2, 0, none⟩, cal := cap2 } t { s with al := s.al ++ [x] } := by
  obtain ⟨h1, h2, h3, h4, h5⟩ := h.row_grown h.oal hg
  have hblk := h2.trans h.blk
  have hgs := grown_set w3 g 7 (.slice (some ⟨g2, 0, none⟩) (s.al.length + 1) cap2)
  have hl : (s.al ++ [x]).length = s.al.length + 1 := by simp
  rw [← ints_snoc, ← hl] at ho
  have keep : ∀ {e : TypeId} {size n : Nat} {y : Value} {xs : List Value}, w3.ownsRow w0.heap.size e size y n xs → e ≠ 108 → (w3.setCell ⟨g, 7, none⟩ (.slice (some ⟨g2, 0, none⟩) (s.al.length + 1) cap2)).ownsRow w0.heap.size e size y n xs :=
    fun ho he => ho.kept hgs (.inr (own_ne_block ho hblk he))
  have hjk : 0 < l.length → (w3.setCell ⟨g, 7, none⟩ (.slice (some ⟨g2, 0, none⟩) (s.al.length + 1) cap2)).heap[b0]? = w3.heap[b0]? := fun h0 => by
    obtain ⟨cs, fz, e⟩ := h4 h0
    refine hgs.block b0 (lt_of_heap e) (fun hh => ?_)
    simp only [Option.some.injEq] at hh
    subst hh
    rw [e] at hblk
    simp only [Option.some.injEq, Obj.cells.injEq] at hblk
    exact absurd hblk.2.1 (by decide)
  have hnew : ob v.Aal = none → w.heap.size ≤ g2 := fun hh => hat.elim (fun e => by rw [hh] at e; cases e) id
  refine ⟨h1.grown hgs h1.size (fun j hj => by cases hj; exact h.g0), h.g0, ?_, h3.same hgs.size hjk, fun h0 => by obtain ⟨cs, fz, e⟩ := h4 h0; exact ⟨cs, fz, by rw [hjk h0]; exact e⟩,
    keep (h.oor.kept hg (.inr (by simp only [Value.ownBlock]; exact (Ne.symm h.sep.oa)))) (by decide), keep (h.oran.kept hg (.inr (by simp only [Value.ownBlock]; exact (Ne.symm h.sep.ra)))) (by decide), keep h5 (by decide), ?_, ?_, ?_⟩
  · rw [heap_set_same w3 g 7 _ hblk, ← hl]; rfl
  · exact keep (h.otr.kept hg (by rw [ob_slice]; exact h.sep.ta)) (by decide)
  · exact keep ho (by decide)
  · constructor
    · exact h.sep.nr
    · exact h.sep.ot
    · exact new_apart hat h.ltor h.sep.oa
    · exact h.sep.rt
    · exact new_apart hat h.ltran h.sep.ra
    · rcases h.sep.ta with e | e
      · exact .inl e
      · exact .inr (new_apart2 hat h.otr (.inr e) hnew)
end
end Go.Proofs.YtjgegnjclmkpeaaDoor
