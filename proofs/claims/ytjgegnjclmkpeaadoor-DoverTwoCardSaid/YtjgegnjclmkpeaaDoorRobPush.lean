/- The robust runner's three lists: an element is appended; the list of those set aside is cut. -/
import Derived.Test.YtjgegnjclmkpeaaDoorFits
set_option linter.unusedVariables false
set_option linter.unusedSimpArgs false
namespace Go.Proofs.YtjgegnjclmkpeaaDoor
open Go.RowKit

section
variable {w0 w w3 : World} {g : Nat} {A0 : Option Addr} {b0 o0 c0 : Nat} {l : List Job} {v : RV} {t : Int} {s : RS}
/-- What lies elsewhere is as it was when a row of whole numbers has grown. -/
theorem RAt.row_grown (h : RAt w0 w g A0 b0 o0 c0 l v t s) {A : Option Addr} {n c : Nat} {xs : List Value} (ho : w.ownsRow w0.heap.size 3 1 (.slice A n c) n xs) (hg : w.grownBy w3 (ob A)) :
    Below w0.heap.size w0 w3 ∧ w3.heap[g]? = w.heap[g]? ∧ RdJobs w3 A0 b0 o0 l ∧ (0 < l.length → ∃ cs fz, w3.heap[b0]? = some (.cells cs 39 fz)) ∧
      w3.ownsRow w0.heap.size 34 2 (.slice (some ⟨v.bfa, 0, none⟩) l.length v.cfa) l.length (fates s.fa) := by
  cases ho2 : ob A with
  | none =>
    rw [ho2] at hg
    have hb : Below w.heap.size w w3 := ⟨hg.os, hg.tape, hg.output, hg.size, fun k hk => hg.block k hk (by simp)⟩
    have h' := h.below hb
    exact ⟨h'.base, hb.block g h.glt, h'.jobs, h'.jblk, h'.ofa⟩
  | some k =>
    rw [ho2] at hg
    have hk : (Value.slice A n c).ownBlock = some k := by rw [ob_slice]; exact ho2
    obtain ⟨cur, hcur⟩ := own_type ho hk
    obtain ⟨h1, h2⟩ := h.jobs_kept k hcur (by decide) hg
    exact ⟨h.bases _ (own_ge ho hk) hg, h.blk_kept k hcur (by decide) hg, h1, h2, h.ofa.kept hg (.inr (own_ne_block h.ofa hcur (by decide)))⟩
theorem RAt.row_cells (h : RAt w0 w g A0 b0 o0 c0 l v t s) {A : Option Addr} {n c : Nat} {xs : List Value} (ho : w.ownsRow w0.heap.size 3 1 (.slice A n c) n xs) (hg : w.grownBy w3 (ob A)) (o : Nat) :
    w3.cell? ⟨g, o, none⟩ = w.cell? ⟨g, o, none⟩ ∧ w3.frozen? ⟨g, o, none⟩ = false := by
  obtain ⟨-, h2, -, -, -⟩ := h.row_grown ho hg
  exact ⟨World.cell?_of_block (a := ⟨g, o, none⟩) h2, free_of_heap (h2.trans h.blk)⟩
theorem ints_snoc (xs : List Int) (x : Int) : ints (xs ++ [x]) = ints xs ++ [.int .i64 x] := by simp [ints]
theorem apart_sym {a b : Option Nat} (h : a = none ∨ a ≠ b) : b = none ∨ b ≠ a := by
  cases a <;> cases b <;> simp_all
  exact fun e => h e.symm
/-- The new row's block is none of those that lay apart from the old one. -/
theorem new_apart {A : Option Addr} {g2 k : Nat} (hat : ob A = some g2 ∨ w.heap.size ≤ g2) (hk : k < w.heap.size) (h : ob A ≠ some k) : ob (some ⟨g2, 0, none⟩ : Option Addr) ≠ some k := by
  intro he
  simp only [ob, Option.map_some, Option.some.injEq] at he
  subst he
  rcases hat with e | e
  · exact h e
  · omega
theorem new_apart2 {A B : Option Addr} {g2 n c : Nat} {xs : List Value} {b : Nat} {e : TypeId} (hat : ob A = some g2 ∨ w.heap.size ≤ g2) (hB : w.ownsRow b e 1 (.slice B n c) n xs) (h : ob A = none ∨ ob B ≠ ob A) (hn : ob A = none → w.heap.size ≤ g2) : ob B ≠ some g2 := by
  intro he
  rcases hat with e1 | e1
  · rcases h with h | h
    · rw [h] at e1; cases e1
    · exact h (he.trans e1.symm)
  · have := own_size hB (g := g2) (by rw [ob_slice]; exact he)
    omega
/-- An element is appended to tr. -/
theorem RAt.push_tr (h : RAt w0 w g A0 b0 o0 c0 l v t s) {g2 cap2 : Nat} {x : Int} (hg : w.grownBy w3 (ob v.Atr))
    (ho : w3.ownsRow w0.heap.size 3 1 (.slice (some ⟨g2, 0, none⟩) (s.tr.length + 1) cap2) (s.tr.length + 1) (ints s.tr ++ [.int .i64 x])) (hat : ob v.Atr = some g2 ∨ w.heap.size ≤ g2) :
    RAt w0 (w3.setCell ⟨g, 3, none⟩ (.slice (some ⟨g2, 0, none⟩) (s.tr.length + 1) cap2)) g A0 b0 o0 c0 l { v with Atr := some ⟨g2, 0, none⟩, ctr := cap2 } t { s with tr := s.tr ++ [x] } := by
  obtain ⟨h1, h2, h3, h4, h5⟩ := h.row_grown h.otr hg
  have hblk := h2.trans h.blk
  have hgs := grown_set w3 g 3 (.slice (some ⟨g2, 0, none⟩) (s.tr.length + 1) cap2)
  have hl : (s.tr ++ [x]).length = s.tr.length + 1 := by simp
  have hown := ho
  rw [← ints_snoc, ← hl] at ho
  have keep : ∀ {e : TypeId} {size n : Nat} {y : Value} {xs : List Value}, w3.ownsRow w0.heap.size e size y n xs → e ≠ 94 → (w3.setCell ⟨g, 3, none⟩ (.slice (some ⟨g2, 0, none⟩) (s.tr.length + 1) cap2)).ownsRow w0.heap.size e size y n xs :=
    fun ho he => ho.kept hgs (.inr (own_ne_block ho hblk he))
  have hjk : 0 < l.length → (w3.setCell ⟨g, 3, none⟩ (.slice (some ⟨g2, 0, none⟩) (s.tr.length + 1) cap2)).heap[b0]? = w3.heap[b0]? := fun h0 => by
    obtain ⟨cs, fz, e⟩ := h4 h0
    refine hgs.block b0 (lt_of_heap e) (fun hh => ?_)
    simp only [Option.some.injEq] at hh
    subst hh
    rw [e] at hblk
    simp only [Option.some.injEq, Obj.cells.injEq] at hblk
    exact absurd hblk.2.1 (by decide)
  have hnew : ob v.Atr = none → w.heap.size ≤ g2 := fun hh => hat.elim (fun e => by rw [hh] at e; cases e) id
  refine ⟨h1.grown hgs h1.size (fun j hj => by cases hj; exact h.g0), h.g0, ?_, h3.same hgs.size hjk, fun h0 => by obtain ⟨cs, fz, e⟩ := h4 h0; exact ⟨cs, fz, by rw [hjk h0]; exact e⟩,
    keep (h.ois.kept hg (.inr (by simp only [Value.ownBlock]; exact (Ne.symm h.sep.it)))) (by decide), keep (h.oran.kept hg (.inr (by simp only [Value.ownBlock]; exact (Ne.symm h.sep.rt)))) (by decide), keep h5 (by decide), ?_, ?_, ?_, ?_⟩
  · rw [heap_set_same w3 g 3 _ hblk, ← hl]; rfl
  · exact keep ho (by decide)
  · exact keep (h.osh.kept hg (by rw [ob_slice]; exact apart_sym h.sep.ts)) (by decide)
  · exact keep (h.oag.kept hg (by rw [ob_slice]; exact apart_sym h.sep.ta)) (by decide)
  · constructor
    · exact h.sep.ir
    · exact new_apart hat h.ltis h.sep.it
    · exact h.sep.is
    · exact h.sep.ia
    · exact new_apart hat h.ltran h.sep.rt
    · exact h.sep.rs
    · exact h.sep.ra
    · exact .inr (Ne.symm (new_apart2 hat h.osh (h.sep.ts.imp id Ne.symm) hnew))
    · exact .inr (Ne.symm (new_apart2 hat h.oag (h.sep.ta.imp id Ne.symm) hnew))
    · exact h.sep.sa
/-- An element is appended to sh. -/
theorem RAt.push_sh (h : RAt w0 w g A0 b0 o0 c0 l v t s) {g2 cap2 : Nat} {x : Int} (hg : w.grownBy w3 (ob v.Ash))
    (ho : w3.ownsRow w0.heap.size 3 1 (.slice (some ⟨g2, 0, none⟩) (s.sh.length + 1) cap2) (s.sh.length + 1) (ints s.sh ++ [.int .i64 x])) (hat : ob v.Ash = some g2 ∨ w.heap.size ≤ g2) :
    RAt w0 (w3.setCell ⟨g, 5, none⟩ (.slice (some ⟨g2, 0, none⟩) (s.sh.length + 1) cap2)) g A0 b0 o0 c0 l { v with Ash := some ⟨g2, 0, none⟩, csh := cap2 } t { s with sh := s.sh ++ [x] } := by
  obtain ⟨h1, h2, h3, h4, h5⟩ := h.row_grown h.osh hg
  have hblk := h2.trans h.blk
  have hgs := grown_set w3 g 5 (.slice (some ⟨g2, 0, none⟩) (s.sh.length + 1) cap2)
  have hl : (s.sh ++ [x]).length = s.sh.length + 1 := by simp
  have hown := ho
  rw [← ints_snoc, ← hl] at ho
  have keep : ∀ {e : TypeId} {size n : Nat} {y : Value} {xs : List Value}, w3.ownsRow w0.heap.size e size y n xs → e ≠ 94 → (w3.setCell ⟨g, 5, none⟩ (.slice (some ⟨g2, 0, none⟩) (s.sh.length + 1) cap2)).ownsRow w0.heap.size e size y n xs :=
    fun ho he => ho.kept hgs (.inr (own_ne_block ho hblk he))
  have hjk : 0 < l.length → (w3.setCell ⟨g, 5, none⟩ (.slice (some ⟨g2, 0, none⟩) (s.sh.length + 1) cap2)).heap[b0]? = w3.heap[b0]? := fun h0 => by
    obtain ⟨cs, fz, e⟩ := h4 h0
    refine hgs.block b0 (lt_of_heap e) (fun hh => ?_)
    simp only [Option.some.injEq] at hh
    subst hh
    rw [e] at hblk
    simp only [Option.some.injEq, Obj.cells.injEq] at hblk
    exact absurd hblk.2.1 (by decide)
  have hnew : ob v.Ash = none → w.heap.size ≤ g2 := fun hh => hat.elim (fun e => by rw [hh] at e; cases e) id
  refine ⟨h1.grown hgs h1.size (fun j hj => by cases hj; exact h.g0), h.g0, ?_, h3.same hgs.size hjk, fun h0 => by obtain ⟨cs, fz, e⟩ := h4 h0; exact ⟨cs, fz, by rw [hjk h0]; exact e⟩,
    keep (h.ois.kept hg (.inr (by simp only [Value.ownBlock]; exact (Ne.symm h.sep.is)))) (by decide), keep (h.oran.kept hg (.inr (by simp only [Value.ownBlock]; exact (Ne.symm h.sep.rs)))) (by decide), keep h5 (by decide), ?_, ?_, ?_, ?_⟩
  · rw [heap_set_same w3 g 5 _ hblk, ← hl]; rfl
  · exact keep (h.otr.kept hg (by rw [ob_slice]; exact h.sep.ts)) (by decide)
  · exact keep ho (by decide)
  · exact keep (h.oag.kept hg (by rw [ob_slice]; exact apart_sym h.sep.sa)) (by decide)
  · constructor
    · exact h.sep.ir
    · exact h.sep.it
    · exact new_apart hat h.ltis h.sep.is
    · exact h.sep.ia
    · exact h.sep.rt
    · exact new_apart hat h.ltran h.sep.rs
    · exact h.sep.ra
    · rcases h.sep.ts with e | e
      · exact .inl e
      · exact .inr (new_apart2 hat h.otr (.inr e) hnew)
    · exact h.sep.ta
    · exact .inr (Ne.symm (new_apart2 hat h.oag (h.sep.sa.imp id Ne.symm) hnew))
/-- An element is appended to ag. -/
theorem RAt.push_ag (h : RAt w0 w g A0 b0 o0 c0 l v t s) {g2 cap2 : Nat} {x : Int} (hg : w.grownBy w3 (ob v.Aag))
    (ho : w3.ownsRow w0.heap.size 3 1 (.slice (some ⟨g2, 0, none⟩) (s.ag.length + 1) cap2) (s.ag.length + 1) (ints s.ag ++ [.int .i64 x])) (hat : ob v.Aag = some g2 ∨ w.heap.size ≤ g2) :
    RAt w0 (w3.setCell ⟨g, 6, none⟩ (.slice (some ⟨g2, 0, none⟩) (s.ag.length + 1) cap2)) g A0 b0 o0 c0 l { v with Aag := some ⟨g2, 0, none⟩, cag := cap2 } t { s with ag := s.ag ++ [x] } := by
  obtain ⟨h1, h2, h3, h4, h5⟩ := h.row_grown h.oag hg
  have hblk := h2.trans h.blk
  have hgs := grown_set w3 g 6 (.slice (some ⟨g2, 0, none⟩) (s.ag.length + 1) cap2)
  have hl : (s.ag ++ [x]).length = s.ag.length + 1 := by simp
  have hown := ho
  rw [← ints_snoc, ← hl] at ho
  have keep : ∀ {e : TypeId} {size n : Nat} {y : Value} {xs : List Value}, w3.ownsRow w0.heap.size e size y n xs → e ≠ 94 → (w3.setCell ⟨g, 6, none⟩ (.slice (some ⟨g2, 0, none⟩) (s.ag.length + 1) cap2)).ownsRow w0.heap.size e size y n xs :=
    fun ho he => ho.kept hgs (.inr (own_ne_block ho hblk he))
  have hjk : 0 < l.length → (w3.setCell ⟨g, 6, none⟩ (.slice (some ⟨g2, 0, none⟩) (s.ag.length + 1) cap2)).heap[b0]? = w3.heap[b0]? := fun h0 => by
    obtain ⟨cs, fz, e⟩ := h4 h0
    refine hgs.block b0 (lt_of_heap e) (fun hh => ?_)
    simp only [Option.some.injEq] at hh
    subst hh
    rw [e] at hblk
    simp only [Option.some.injEq, Obj.cells.injEq] at hblk
    exact absurd hblk.2.1 (by decide)
  have hnew : ob v.Aag = none → w.heap.size ≤ g2 := fun hh => hat.elim (fun e => by rw [hh] at e; cases e) id
  refine ⟨h1.grown hgs h1.size (fun j hj => by cases hj; exact h.g0), h.g0, ?_, h3.same hgs.size hjk, fun h0 => by obtain ⟨cs, fz, e⟩ := h4 h0; exact ⟨cs, fz, by rw [hjk h0]; exact e⟩,
    keep (h.ois.kept hg (.inr (by simp only [Value.ownBlock]; exact (Ne.symm h.sep.ia)))) (by decide), keep (h.oran.kept hg (.inr (by simp only [Value.ownBlock]; exact (Ne.symm h.sep.ra)))) (by decide), keep h5 (by decide), ?_, ?_, ?_, ?_⟩
  · rw [heap_set_same w3 g 6 _ hblk, ← hl]; rfl
  · exact keep (h.otr.kept hg (by rw [ob_slice]; exact h.sep.ta)) (by decide)
  · exact keep (h.osh.kept hg (by rw [ob_slice]; exact h.sep.sa)) (by decide)
  · exact keep ho (by decide)
  · constructor
    · exact h.sep.ir
    · exact h.sep.it
    · exact h.sep.is
    · exact new_apart hat h.ltis h.sep.ia
    · exact h.sep.rt
    · exact h.sep.rs
    · exact new_apart hat h.ltran h.sep.ra
    · exact h.sep.ts
    · rcases h.sep.ta with e | e
      · exact .inl e
      · exact .inr (new_apart2 hat h.otr (.inr e) hnew)
    · rcases h.sep.sa with e | e
      · exact .inl e
      · exact .inr (new_apart2 hat h.osh (.inr e) hnew)
/-- A shorter row. -/
theorem own_take {B : Nat} {e : TypeId} {A : Option Addr} {n c m : Nat} {xs : List Int} (h : w.ownsRow B e 1 (.slice A n c) n (ints xs)) (hm : m ≤ n) : w.ownsRow B e 1 (.slice A m c) m (ints (xs.take m)) := by
  obtain ⟨h1, h2⟩ := h
  rw [ints_length] at h1
  refine ⟨by rw [ints_length, List.length_take]; omega, ?_⟩
  rcases h2 with ⟨h0, hn0⟩ | ⟨g', cap', cur, hv, hg, hh, hn, hcap, hsz, htake⟩
  · obtain rfl : m = 0 := by omega
    simp only [Value.slice.injEq] at h0
    exact .inl ⟨by rw [h0.1, h0.2.2], rfl⟩
  · simp only [Value.slice.injEq] at hv
    refine .inr ⟨g', c, cur, by rw [hv.1], hg, hh, by omega, by omega, by rw [hv.2.2]; exact hsz, ?_⟩
    have h3 : (cur.toList.take (n * 1)).take (m * 1) = (ints xs).take (m * 1) := by rw [htake]
    rw [List.take_take, Nat.min_eq_left (by omega)] at h3
    rw [h3]; simp [ints, List.map_take]
/-- The list of those set aside is cut. -/
theorem RAt.cut_sh (h : RAt w0 w g A0 b0 o0 c0 l v t s) {m : Nat} (hm : m ≤ s.sh.length) :
    RAt w0 (w.setCell ⟨g, 5, none⟩ (.slice v.Ash m v.csh)) g A0 b0 o0 c0 l v t { s with sh := s.sh.take m } := by
  obtain ⟨h1, h2, h3, h4, h5⟩ := h.set_g 5 (.slice v.Ash m v.csh)
  have hl : (s.sh.take m).length = m := by rw [List.length_take]; omega
  have ho := own_take h.osh hm
  refine ⟨h1, h.g0, by rw [h2]; show _ = some (Obj.cells (rcells A0 l.length c0 v { s with sh := s.sh.take m } t) _ _); simp only [rcells, hl]; rfl, h3, h4, h5 h.ois (by decide), h5 h.oran (by decide), h5 h.ofa (by decide), h5 h.otr (by decide), ?_, h5 h.oag (by decide), h.sep⟩
  have := h5 ho (by decide)
  rw [← hl] at this
  simpa [hl] using this
end
end Go.Proofs.YtjgegnjclmkpeaaDoor
