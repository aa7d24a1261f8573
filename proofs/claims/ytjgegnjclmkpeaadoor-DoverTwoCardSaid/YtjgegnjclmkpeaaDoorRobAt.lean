/- The robust runner in memory: what its cells hold; what a store, an append turns. -/
import Derived.Test.YtjgegnjclmkpeaaDoorJobWalk2
import Derived.Laws.OwnMore
import Derived.Maps.AppendAt
set_option linter.unusedVariables false
set_option linter.unusedSimpArgs false
namespace Go.Proofs.YtjgegnjclmkpeaaDoor
open Go.RowKit

/-! ### Rows of whole numbers, of fates -/
def ints (xs : List Int) : List Value := xs.map (Value.int .i64)
def fates : List (Int × Int) → List Value
  | [] => []
  | p :: r => .int .i64 p.1 :: .int .i64 p.2 :: fates r
theorem ints_length (xs : List Int) : (ints xs).length = xs.length := by simp [ints]
theorem fates_length (xs : List (Int × Int)) : (fates xs).length = xs.length * 2 := by
  induction xs with
  | nil => rfl
  | cons p r ih => simp only [fates, List.length_cons, ih]; omega
theorem ints_at (xs : List Int) (j : Nat) (h : j < xs.length) : (ints xs)[j]? = some (.int .i64 (xs.getD j 0)) := by
  simp [ints, List.getD_eq_getElem?_getD, List.getElem?_eq_getElem h]
theorem ints_set (xs : List Int) (j : Nat) (x : Int) : (ints xs).set j (.int .i64 x) = ints (xs.set j x) := by simp [ints, List.map_set]
theorem ints_append (xs ys : List Int) : ints xs ++ ints ys = ints (xs ++ ys) := by simp [ints]
theorem fates_at (xs : List (Int × Int)) (j : Nat) (h : j < xs.length) : (fates xs)[j * 2]? = some (.int .i64 (xs.getD j (0, 0)).1) ∧ (fates xs)[j * 2 + 1]? = some (.int .i64 (xs.getD j (0, 0)).2) := by
  induction xs generalizing j with
  | nil => simp at h
  | cons p r ih =>
    cases j with
    | zero => exact ⟨rfl, rfl⟩
    | succ j =>
      have := ih j (by simpa using h)
      rw [show (j + 1) * 2 = j * 2 + 1 + 1 by omega]
      simpa [fates] using this
theorem fates_set (xs : List (Int × Int)) (j : Nat) (k t : Int) : ((fates xs).set (j * 2) (.int .i64 k)).set (j * 2 + 1) (.int .i64 t) = fates (xs.set j (k, t)) := by
  induction xs generalizing j with
  | nil => rfl
  | cons p r ih =>
    cases j with
    | zero => rfl
    | succ j =>
      rw [show (j + 1) * 2 = j * 2 + 1 + 1 by omega]
      simp only [fates, List.set_cons_succ]
      rw [ih]

/-! ### Rows that are owned -/
section
variable {w w' : World} {B : Nat} {e : TypeId} {size : Nat} {g n c : Nat}
theorem own_int {xs : List Int} (h : w.ownsRow B e 1 (.slice (some ⟨g, 0, none⟩) n c) n (ints xs)) (j : Nat) (hj : j < n) : w.cell? ⟨g, j, none⟩ = some (.int .i64 (xs.getD j 0)) := by
  have hl : xs.length = n := by have := h.1; simpa [ints_length] using this
  rw [h.cellAt j (by omega), ints_at _ _ (by omega)]
theorem own_fate {xs : List (Int × Int)} (h : w.ownsRow B e 2 (.slice (some ⟨g, 0, none⟩) n c) n (fates xs)) (j : Nat) (hj : j < n) :
    w.cell? ⟨g, j * 2, none⟩ = some (.int .i64 (xs.getD j (0, 0)).1) ∧ w.cell? ⟨g, j * 2 + 1, none⟩ = some (.int .i64 (xs.getD j (0, 0)).2) := by
  have hl : xs.length = n := by have := h.1; rw [fates_length] at this; omega
  have := fates_at xs j (by omega)
  exact ⟨by rw [h.cellAt _ (by omega)]; exact this.1, by rw [h.cellAt _ (by omega)]; exact this.2⟩
theorem own_ge {v : Value} {xs : List Value} (h : w.ownsRow B e size v n xs) (hv : v.ownBlock = some g) : B ≤ g := (h.lt g hv).1
theorem own_size {v : Value} {xs : List Value} (h : w.ownsRow B e size v n xs) (hv : v.ownBlock = some g) : g < w.heap.size := (h.lt g hv).2
/-- What an owned block holds: cells of the row's type. -/
theorem own_type {v : Value} {xs : List Value} (h : w.ownsRow B e size v n xs) (hv : v.ownBlock = some g) : ∃ cur, w.heap[g]? = some (.cells cur e (0, 0)) := by
  rcases h.2 with ⟨rfl, _⟩ | ⟨g', cap, cur, rfl, _, hgg, _⟩
  · simp [Value.ownBlock] at hv
  · simp [Value.ownBlock] at hv
    subst hv
    exact ⟨cur, hgg⟩
theorem own_ne_type {v v' : Value} {xs xs' : List Value} {B' e' size' n' : Nat} (h : w.ownsRow B e size v n xs) (h' : w.ownsRow B' e' size' v' n' xs') (hne : e ≠ e') (hv' : v'.ownBlock = some g) : v.ownBlock ≠ some g := by
  intro hv
  obtain ⟨c1, h1⟩ := own_type h hv
  obtain ⟨c2, h2⟩ := own_type h' hv'
  rw [h1] at h2
  simp only [Option.some.injEq, Obj.cells.injEq] at h2
  exact hne h2.2.1
theorem own_ne_block {v : Value} {xs : List Value} {cs : Array Value} {e' : TypeId} {fz : Nat × Nat} (h : w.ownsRow B e size v n xs) (hb : w.heap[g]? = some (.cells cs e' fz)) (hne : e ≠ e') : v.ownBlock ≠ some g := by
  intro hv
  obtain ⟨c1, h1⟩ := own_type h hv
  rw [h1] at hb
  simp only [Option.some.injEq, Obj.cells.injEq] at hb
  exact hne hb.2.1
/-- Only block k, and what is new, has turned. -/
theorem grown_set (w : World) (k o : Nat) (u : Value) : w.grownBy (w.setCell ⟨k, o, none⟩ u) (some k) :=
  ⟨rfl, rfl, rfl, by simp [World.setCell], fun i _ hne => Below.heap_setCell w _ u i (by intro h; exact hne (by rw [h]))⟩
theorem grown_of_below (hb : Below w.heap.size w w') (r : Option Nat) : w.grownBy w' r := ⟨hb.os, hb.tape, hb.output, hb.size, fun k hk _ => hb.block k hk⟩
theorem grown_trans {w1 : World} {r : Option Nat} (h : w.grownBy w1 r) (k : w1.grownBy w' r) : w.grownBy w' r := World.grownBy.trans h k
theorem heap_set_same (w : World) (k o : Nat) (u : Value) {cs : Array Value} {e : TypeId} {fz : Nat × Nat} (h : w.heap[k]? = some (.cells cs e fz)) : (w.setCell ⟨k, o, none⟩ u).heap[k]? = some (.cells (cs.setIfInBounds o u) e fz) := by
  simp [World.setCell, Array.getElem?_modify, h]
theorem cell_of_heap {k o : Nat} {cs : Array Value} {e : TypeId} {fz : Nat × Nat} (h : w.heap[k]? = some (.cells cs e fz)) : w.cell? ⟨k, o, none⟩ = cs[o]? := by simp [World.cell?, h]
theorem free_of_heap {k o : Nat} {cs : Array Value} {e : TypeId} (h : w.heap[k]? = some (.cells cs e (0, 0))) : w.frozen? ⟨k, o, none⟩ = false := by simp [World.frozen?, h]
theorem lt_of_heap {k : Nat} {o : Obj} (h : w.heap[k]? = some o) : k < w.heap.size := (Array.getElem?_eq_some_iff.1 h).1
end

/-- The box of a job: a new block. -/
theorem jbox (w : World) (j : Job) : ∃ W, w.alloc (.cells #[.string j.name, .int .i64 j.rel, .int .i64 j.dl, .int .i64 j.bud, .int .i64 j.act, .int .i64 j.val, .int .i64 j.cln, .bool j.hard] 39) = W ∧
    Below w.heap.size w W ∧ w.heap.size < W.heap.size ∧ Row W w.heap.size 0 j := by
  refine ⟨_, rfl, below_alloc (Below.refl _ w) _, by simp, ⟨?_, ?_, ?_, ?_, ?_, ?_, ?_, ?_⟩⟩ <;> simp

/-- The slices of a runner. -/
structure RV where
  bis : Nat
  cis : Nat
  bran : Nat
  cran : Nat
  bfa : Nat
  cfa : Nat
  Atr : Option Addr
  ctr : Nat
  Ash : Option Addr
  csh : Nat
  Aag : Option Addr
  cag : Nat
def ob (A : Option Addr) : Option Nat := A.map Addr.block
theorem ob_slice (A : Option Addr) (n c : Nat) : (Value.slice A n c).ownBlock = ob A := by cases A <;> rfl
/-- The rows of whole numbers lie apart. -/
structure Sep (v : RV) : Prop where
  ir : v.bis ≠ v.bran
  it : ob v.Atr ≠ some v.bis
  is : ob v.Ash ≠ some v.bis
  ia : ob v.Aag ≠ some v.bis
  rt : ob v.Atr ≠ some v.bran
  rs : ob v.Ash ≠ some v.bran
  ra : ob v.Aag ≠ some v.bran
  ts : ob v.Atr = none ∨ ob v.Atr ≠ ob v.Ash
  ta : ob v.Atr = none ∨ ob v.Atr ≠ ob v.Aag
  sa : ob v.Ash = none ∨ ob v.Ash ≠ ob v.Aag
/-- The runner's eight cells. -/
def rcells (A0 : Option Addr) (n c0 : Nat) (v : RV) (s : RS) (t : Int) : Array Value :=
  #[.slice A0 n c0, .slice (some ⟨v.bis, 0, none⟩) n v.cis, .slice (some ⟨v.bran, 0, none⟩) n v.cran, .slice v.Atr s.tr.length v.ctr, .slice (some ⟨v.bfa, 0, none⟩) n v.cfa, .slice v.Ash s.sh.length v.csh, .slice v.Aag s.ag.length v.cag, .int .i64 t]
/-- A runner at block g: w0 is the world at the beginning of the run. -/
structure RAt (w0 w : World) (g : Nat) (A0 : Option Addr) (b0 o0 c0 : Nat) (l : List Job) (v : RV) (t : Int) (s : RS) : Prop where
  base : Below w0.heap.size w0 w
  g0 : w0.heap.size ≤ g
  blk : w.heap[g]? = some (.cells (rcells A0 l.length c0 v s t) 94 (0, 0))
  jobs : RdJobs w A0 b0 o0 l
  jblk : 0 < l.length → ∃ cs fz, w.heap[b0]? = some (.cells cs 39 fz)
  ois : w.ownsRow w0.heap.size 3 1 (.slice (some ⟨v.bis, 0, none⟩) l.length v.cis) l.length (ints s.is)
  oran : w.ownsRow w0.heap.size 3 1 (.slice (some ⟨v.bran, 0, none⟩) l.length v.cran) l.length (ints s.ran)
  ofa : w.ownsRow w0.heap.size 34 2 (.slice (some ⟨v.bfa, 0, none⟩) l.length v.cfa) l.length (fates s.fa)
  otr : w.ownsRow w0.heap.size 3 1 (.slice v.Atr s.tr.length v.ctr) s.tr.length (ints s.tr)
  osh : w.ownsRow w0.heap.size 3 1 (.slice v.Ash s.sh.length v.csh) s.sh.length (ints s.sh)
  oag : w.ownsRow w0.heap.size 3 1 (.slice v.Aag s.ag.length v.cag) s.ag.length (ints s.ag)
  sep : Sep v

section
variable {w0 w w' : World} {g : Nat} {A0 : Option Addr} {b0 o0 c0 : Nat} {l : List Job} {v : RV} {t : Int} {s : RS}
theorem RAt.lis (h : RAt w0 w g A0 b0 o0 c0 l v t s) : s.is.length = l.length := by have := h.ois.1; rw [ints_length] at this; omega
theorem RAt.lran (h : RAt w0 w g A0 b0 o0 c0 l v t s) : s.ran.length = l.length := by have := h.oran.1; rw [ints_length] at this; omega
theorem RAt.lfa (h : RAt w0 w g A0 b0 o0 c0 l v t s) : s.fa.length = l.length := by have := h.ofa.1; rw [fates_length] at this; omega
theorem RAt.glt (h : RAt w0 w g A0 b0 o0 c0 l v t s) : g < w.heap.size := lt_of_heap h.blk
theorem RAt.tabs (h : RAt w0 w g A0 b0 o0 c0 l v t s) (hT : Tabs w0) : Tabs w := hT.below h.base
/-- What the runner's cells hold. -/
theorem RAt.cells (h : RAt w0 w g A0 b0 o0 c0 l v t s) :
    w.cell? ⟨g, 0, none⟩ = some (.slice A0 l.length c0) ∧ w.cell? ⟨g, 1, none⟩ = some (.slice (some ⟨v.bis, 0, none⟩) l.length v.cis) ∧ w.cell? ⟨g, 2, none⟩ = some (.slice (some ⟨v.bran, 0, none⟩) l.length v.cran) ∧
    w.cell? ⟨g, 3, none⟩ = some (.slice v.Atr s.tr.length v.ctr) ∧ w.cell? ⟨g, 4, none⟩ = some (.slice (some ⟨v.bfa, 0, none⟩) l.length v.cfa) ∧ w.cell? ⟨g, 5, none⟩ = some (.slice v.Ash s.sh.length v.csh) ∧
    w.cell? ⟨g, 6, none⟩ = some (.slice v.Aag s.ag.length v.cag) ∧ w.cell? ⟨g, 7, none⟩ = some (.int .i64 t) := by
  have hc := fun o => cell_of_heap (o := o) h.blk
  exact ⟨hc 0, hc 1, hc 2, hc 3, hc 4, hc 5, hc 6, hc 7⟩
theorem RAt.free (h : RAt w0 w g A0 b0 o0 c0 l v t s) (o : Nat) : w.frozen? ⟨g, o, none⟩ = false := free_of_heap h.blk
theorem RAt.cis (h : RAt w0 w g A0 b0 o0 c0 l v t s) (i : Nat) (hi : i < l.length) : w.cell? ⟨v.bis, i, none⟩ = some (.int .i64 (Rob.isAt s i)) := own_int h.ois i hi
theorem RAt.cran (h : RAt w0 w g A0 b0 o0 c0 l v t s) (i : Nat) (hi : i < l.length) : w.cell? ⟨v.bran, i, none⟩ = some (.int .i64 (Rob.ranAt s i)) := own_int h.oran i hi
theorem RAt.cfa (h : RAt w0 w g A0 b0 o0 c0 l v t s) (i : Nat) (hi : i < l.length) : w.cell? ⟨v.bfa, i * 2, none⟩ = some (.int .i64 (Rob.kindAt s i)) ∧ w.cell? ⟨v.bfa, i * 2 + 1, none⟩ = some (.int .i64 (s.fa.getD i (0, 0)).2) := own_fate h.ofa i hi
theorem RAt.ltis (h : RAt w0 w g A0 b0 o0 c0 l v t s) : v.bis < w.heap.size := own_size h.ois rfl
theorem RAt.ltran (h : RAt w0 w g A0 b0 o0 c0 l v t s) : v.bran < w.heap.size := own_size h.oran rfl
theorem RAt.ltfa (h : RAt w0 w g A0 b0 o0 c0 l v t s) : v.bfa < w.heap.size := own_size h.ofa rfl
/-- New blocks turn nothing. -/
theorem RAt.below (h : RAt w0 w g A0 b0 o0 c0 l v t s) (hb : Below w.heap.size w w') : RAt w0 w' g A0 b0 o0 c0 l v t s where
  base := h.base.trans (hb.mono h.base.size)
  g0 := h.g0
  blk := by rw [hb.block g h.glt]; exact h.blk
  jobs := h.jobs.below hb
  jblk := fun h0 => by obtain ⟨cs, fz, e⟩ := h.jblk h0; exact ⟨cs, fz, by rw [hb.block _ (lt_of_heap e)]; exact e⟩
  ois := h.ois.kept (grown_of_below hb none) (.inr (by simp [Value.ownBlock]))
  oran := h.oran.kept (grown_of_below hb none) (.inr (by simp [Value.ownBlock]))
  ofa := h.ofa.kept (grown_of_below hb none) (.inr (by simp [Value.ownBlock]))
  otr := h.otr.kept (grown_of_below hb none) (by rw [ob_slice]; cases ob v.Atr <;> simp)
  osh := h.osh.kept (grown_of_below hb none) (by rw [ob_slice]; cases ob v.Ash <;> simp)
  oag := h.oag.kept (grown_of_below hb none) (by rw [ob_slice]; cases ob v.Aag <;> simp)
  sep := h.sep
/-- A block that is written is none of the others. -/
theorem RAt.bases (h : RAt w0 w g A0 b0 o0 c0 l v t s) (k : Nat) (hk : w0.heap.size ≤ k) (hg : w.grownBy w' (some k)) : Below w0.heap.size w0 w' :=
  h.base.grown hg h.base.size (fun j hj => by cases hj; exact hk)
theorem RAt.jobs_kept (h : RAt w0 w g A0 b0 o0 c0 l v t s) (k : Nat) {cs : Array Value} {e : TypeId} {fz : Nat × Nat} (hk : w.heap[k]? = some (.cells cs e fz)) (he : e ≠ 39) (hg : w.grownBy w' (some k)) :
    RdJobs w' A0 b0 o0 l ∧ (0 < l.length → ∃ cs fz, w'.heap[b0]? = some (.cells cs 39 fz)) := by
  have hkeep : 0 < l.length → w'.heap[b0]? = w.heap[b0]? := fun h0 => by
    obtain ⟨cs', fz', e'⟩ := h.jblk h0
    refine hg.block b0 (lt_of_heap e') (fun hh => ?_)
    simp only [Option.some.injEq] at hh
    subst hh
    rw [e'] at hk
    simp only [Option.some.injEq, Obj.cells.injEq] at hk
    exact he hk.2.1.symm
  exact ⟨h.jobs.same hg.size hkeep, fun h0 => by obtain ⟨cs', fz', e'⟩ := h.jblk h0; exact ⟨cs', fz', by rw [hkeep h0]; exact e'⟩⟩
theorem RAt.blk_kept (h : RAt w0 w g A0 b0 o0 c0 l v t s) (k : Nat) {cs : Array Value} {e : TypeId} {fz : Nat × Nat} (hk : w.heap[k]? = some (.cells cs e fz)) (he : e ≠ 94) (hg : w.grownBy w' (some k)) :
    w'.heap[g]? = w.heap[g]? := by
  refine hg.block g h.glt (fun hh => ?_)
  simp only [Option.some.injEq] at hh
  subst hh
  rw [h.blk] at hk
  simp only [Option.some.injEq, Obj.cells.injEq] at hk
  exact he hk.2.1.symm

/-- is[i] = x. -/
theorem RAt.set_is (h : RAt w0 w g A0 b0 o0 c0 l v t s) (i : Nat) (x : Int) : RAt w0 (w.setCell ⟨v.bis, i, none⟩ (.int .i64 x)) g A0 b0 o0 c0 l v t { s with is := s.is.set i x } := by
  have hg := grown_set w v.bis i (.int .i64 x)
  obtain ⟨cur, hk⟩ := own_type h.ois (g := v.bis) rfl
  obtain ⟨h1, h2⟩ := h.jobs_kept v.bis hk (by decide) hg
  exact ⟨h.bases _ (own_ge h.ois rfl) hg, h.g0, by rw [h.blk_kept v.bis hk (by decide) hg]; exact h.blk, h1, h2,
    by have := (h.ois.stored i (.int .i64 x)).1; rwa [ints_set] at this,
    h.oran.kept hg (.inr (by simp only [Value.ownBlock, ne_eq, Option.some.injEq]; exact Ne.symm h.sep.ir)),
    h.ofa.kept hg (.inr (own_ne_block h.ofa hk (by decide))),
    h.otr.kept hg (.inr (by rw [ob_slice]; exact h.sep.it)), h.osh.kept hg (.inr (by rw [ob_slice]; exact h.sep.is)), h.oag.kept hg (.inr (by rw [ob_slice]; exact h.sep.ia)), h.sep⟩
/-- ran[i] = x. -/
theorem RAt.set_ran (h : RAt w0 w g A0 b0 o0 c0 l v t s) (i : Nat) (x : Int) : RAt w0 (w.setCell ⟨v.bran, i, none⟩ (.int .i64 x)) g A0 b0 o0 c0 l v t { s with ran := s.ran.set i x } := by
  have hg := grown_set w v.bran i (.int .i64 x)
  obtain ⟨cur, hk⟩ := own_type h.oran (g := v.bran) rfl
  obtain ⟨h1, h2⟩ := h.jobs_kept v.bran hk (by decide) hg
  exact ⟨h.bases _ (own_ge h.oran rfl) hg, h.g0, by rw [h.blk_kept v.bran hk (by decide) hg]; exact h.blk, h1, h2,
    h.ois.kept hg (.inr (by simp only [Value.ownBlock, ne_eq, Option.some.injEq]; exact h.sep.ir)),
    by have := (h.oran.stored i (.int .i64 x)).1; rwa [ints_set] at this,
    h.ofa.kept hg (.inr (own_ne_block h.ofa hk (by decide))),
    h.otr.kept hg (.inr (by rw [ob_slice]; exact h.sep.rt)), h.osh.kept hg (.inr (by rw [ob_slice]; exact h.sep.rs)), h.oag.kept hg (.inr (by rw [ob_slice]; exact h.sep.ra)), h.sep⟩
/-- fates[i] = {k, a}. -/
theorem RAt.set_fa (h : RAt w0 w g A0 b0 o0 c0 l v t s) (i : Nat) (k a : Int) : RAt w0 ((w.setCell ⟨v.bfa, i * 2, none⟩ (.int .i64 k)).setCell ⟨v.bfa, i * 2 + 1, none⟩ (.int .i64 a)) g A0 b0 o0 c0 l v t { s with fa := s.fa.set i (k, a) } := by
  have hg := grown_trans (grown_set w v.bfa (i * 2) (.int .i64 k)) (grown_set _ v.bfa (i * 2 + 1) (.int .i64 a))
  obtain ⟨cur, hk⟩ := own_type h.ofa (g := v.bfa) rfl
  obtain ⟨h1, h2⟩ := h.jobs_kept v.bfa hk (by decide) hg
  exact ⟨h.bases _ (own_ge h.ofa rfl) hg, h.g0, by rw [h.blk_kept v.bfa hk (by decide) hg]; exact h.blk, h1, h2,
    h.ois.kept hg (.inr (own_ne_block h.ois hk (by decide))), h.oran.kept hg (.inr (own_ne_block h.oran hk (by decide))),
    by have := ((h.ofa.stored (i * 2) (.int .i64 k)).1.stored (i * 2 + 1) (.int .i64 a)).1; rwa [fates_set] at this,
    h.otr.kept hg (.inr (own_ne_block h.otr hk (by decide))), h.osh.kept hg (.inr (own_ne_block h.osh hk (by decide))), h.oag.kept hg (.inr (own_ne_block h.oag hk (by decide))), h.sep⟩
/-- A cell of the runner itself is written: what else lies there is as it was. -/
theorem RAt.set_g (h : RAt w0 w g A0 b0 o0 c0 l v t s) (o : Nat) (u : Value) :
    Below w0.heap.size w0 (w.setCell ⟨g, o, none⟩ u) ∧ (w.setCell ⟨g, o, none⟩ u).heap[g]? = some (.cells ((rcells A0 l.length c0 v s t).setIfInBounds o u) 94 (0, 0)) ∧ RdJobs (w.setCell ⟨g, o, none⟩ u) A0 b0 o0 l ∧
    (0 < l.length → ∃ cs fz, (w.setCell ⟨g, o, none⟩ u).heap[b0]? = some (.cells cs 39 fz)) ∧
    (∀ {e : TypeId} {size n : Nat} {x : Value} {xs : List Value}, w.ownsRow w0.heap.size e size x n xs → e ≠ 94 → (w.setCell ⟨g, o, none⟩ u).ownsRow w0.heap.size e size x n xs) := by
  have hg := grown_set w g o u
  obtain ⟨h1, h2⟩ := h.jobs_kept g h.blk (by decide) hg
  exact ⟨h.bases _ h.g0 hg, heap_set_same w g o u h.blk, h1, h2, fun ho he => ho.kept hg (.inr (own_ne_block ho h.blk he))⟩
/-- tick = x. -/
theorem RAt.set_tick (h : RAt w0 w g A0 b0 o0 c0 l v t s) (x : Int) : RAt w0 (w.setCell ⟨g, 7, none⟩ (.int .i64 x)) g A0 b0 o0 c0 l v x s := by
  obtain ⟨h1, h2, h3, h4, h5⟩ := h.set_g 7 (.int .i64 x)
  exact ⟨h1, h.g0, h2, h3, h4, h5 h.ois (by decide), h5 h.oran (by decide), h5 h.ofa (by decide), h5 h.otr (by decide), h5 h.osh (by decide), h5 h.oag (by decide), h.sep⟩
end
end Go.Proofs.YtjgegnjclmkpeaaDoor
