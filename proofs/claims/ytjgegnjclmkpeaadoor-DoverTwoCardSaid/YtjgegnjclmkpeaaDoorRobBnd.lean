/- Plain: how long the robust scheduler's lists become. No program in sight. -/
import Derived.Test.YtjgegnjclmkpeaaDoorRobModel
namespace Go.Proofs.YtjgegnjclmkpeaaDoor
namespace Rob
/-- What late, arrive leave; how many more are set aside. -/
structure Keeps (d : Nat) (s s' : RS) : Prop where
  ran : s'.ran = s.ran
  tr : s'.tr = s.tr
  ag : s'.ag = s.ag
  sh : s'.sh.length ≤ s.sh.length + d
theorem Keeps.refl (s : RS) : Keeps 0 s s := ⟨rfl, rfl, rfl, Nat.le_refl _⟩
theorem Keeps.trans {a b : Nat} {s s' s'' : RS} (h : Keeps a s s') (k : Keeps b s' s'') : Keeps (a + b) s s'' :=
  ⟨k.ran.trans h.ran, k.tr.trans h.tr, k.ag.trans h.ag, by have := h.sh; have := k.sh; omega⟩
theorem Keeps.mono {a b : Nat} {s s' : RS} (h : Keeps a s s') (hab : a ≤ b) : Keeps b s s' := ⟨h.ran, h.tr, h.ag, by have := h.sh; omega⟩
theorem Keeps.fold {α : Type} (f : RS → α → RS) (d : Nat) (h : ∀ s x, Keeps d s (f s x)) (r : List α) : ∀ s, Keeps (r.length * d) s (r.foldl f s) := by
  induction r with
  | nil => intro s; exact ⟨rfl, rfl, rfl, by simp⟩
  | cons x r ih =>
    intro s
    refine ((h s x).trans (ih (f s x))).mono ?_
    rw [List.length_cons, Nat.add_mul]; omega
variable (l : List Job)
theorem keeps_say (s : RS) (i : Nat) (k t : Int) : Keeps 0 s (say s i k t) := ⟨rfl, rfl, rfl, Nat.le_refl _⟩
theorem keeps_late1 (t : Int) (s : RS) (i : Nat) : Keeps 0 s (late1 l t s i) := by
  unfold late1; split
  · exact keeps_say _ _ _ _
  · exact Keeps.refl s
theorem keeps_late (t : Int) (s : RS) : Keeps 0 s (late l t s) := (Keeps.fold _ 0 (keeps_late1 l t) _ s).mono (by simp)
theorem keeps_arrLoop (t : Int) (i n : Nat) : ∀ (f : Nat) (s : RS), Keeps f s (arrLoop l t i n f s)
  | 0, s => Keeps.refl s
  | f + 1, s => by
    unfold arrLoop
    split
    · exact (Keeps.refl s).mono (by omega)
    · split
      · refine ⟨rfl, rfl, rfl, ?_⟩
        show (s.sh.take n).length ≤ _
        rw [List.length_take]; omega
      · have h := keeps_arrLoop t i n f { s with is := s.is.set (least l s).toNat 2, sh := s.sh ++ [least l s] }
        refine ⟨h.ran, h.tr, h.ag, ?_⟩
        have := h.sh
        simp only [List.length_append, List.length_singleton] at this
        omega
theorem keeps_arrive1 (t : Int) (s : RS) (i : Nat) : Keeps (l.length + 1) s (arrive1 l t s i) := by
  unfold arrive1; split
  · have h := keeps_arrLoop l t i s.sh.length (l.length + 1) { s with is := s.is.set i 1 }
    exact ⟨h.ran, h.tr, h.ag, h.sh⟩
  · exact (Keeps.refl s).mono (by omega)
theorem keeps_arrivals (t : Int) (k : Nat) (s : RS) : Keeps (k * (l.length + 1)) s ((List.range k).foldl (arrive1 l t) s) := by
  have := Keeps.fold _ _ (keeps_arrive1 l t) (List.range k) s
  rwa [List.length_range] at this
/-- What again leaves. -/
structure KeepsG (d : Nat) (s s' : RS) : Prop where
  ran : s'.ran = s.ran
  tr : s'.tr = s.tr
  sh : s'.sh = s.sh
  ag : s'.ag.length ≤ s.ag.length + d
theorem keepsG_again1 (t : Int) (s : RS) (i : Nat) : KeepsG 1 s (again1 l t s i) := by
  unfold again1; split
  · exact ⟨rfl, rfl, rfl, by simp⟩
  · exact ⟨rfl, rfl, rfl, by simp⟩
theorem keepsG_fold (t : Int) (r : List Nat) : ∀ s, KeepsG r.length s (r.foldl (again1 l t) s) := by
  induction r with
  | nil => intro s; exact ⟨rfl, rfl, rfl, by simp⟩
  | cons x r ih =>
    intro s
    have h := keepsG_again1 l t s x
    have k := ih (again1 l t s x)
    exact ⟨k.ran.trans h.ran, k.tr.trans h.tr, k.sh.trans h.sh, by have := h.ag; have := k.ag; rw [List.foldl_cons, List.length_cons]; omega⟩
theorem keepsG_again (t : Int) (s : RS) : KeepsG l.length s (again l t s) := by
  have h := keepsG_fold l t (againList l s) s
  have hl : (againList l s).length ≤ l.length := by
    unfold againList
    rw [(isort_perm _ _).length_eq]
    exact Nat.le_trans (List.length_filter_le _ _) (by simp)
  exact ⟨h.ran, h.tr, h.sh, Nat.le_trans h.ag (by omega)⟩
/-- What a tick's run leaves. -/
structure KeepsT (d : Nat) (s s' : RS) : Prop where
  ran : ∀ i, ranAt s' i = ranAt s i ∨ ranAt s' i = ranAt s i + 1
  tr : s'.tr.length = s.tr.length + 1
  sh : s'.sh = s.sh
  ag : s'.ag.length ≤ s.ag.length + d
theorem ranAt_set (s : RS) (k i : Nat) (x : Int) : ranAt { s with ran := s.ran.set k x } i = if i = k ∧ k < s.ran.length then x else ranAt s i := by
  unfold ranAt
  simp only [List.getD_eq_getElem?_getD, List.getElem?_set]
  by_cases h : k = i
  · subst h
    by_cases h2 : k < s.ran.length
    · simp [h2]
    · simp [h2]
  · simp [h, Ne.symm h]
theorem keeps_runAt (t : Int) (i : Nat) (s : RS) : (∀ j, ranAt (runAt l t i s) j = ranAt s j ∨ ranAt (runAt l t i s) j = ranAt s j + 1) ∧ (runAt l t i s).tr = s.tr ∧ (runAt l t i s).sh = s.sh ∧ (runAt l t i s).ag.length ≤ s.ag.length + l.length := by
  have h1 : ∀ j, ranAt { s with ran := s.ran.set i (ranAt s i + 1) } j = ranAt s j ∨ ranAt { s with ran := s.ran.set i (ranAt s i + 1) } j = ranAt s j + 1 := fun j => by
    rw [ranAt_set]
    split
    · rename_i h; rw [h.1]; exact .inr rfl
    · exact .inl rfl
  unfold runAt
  simp only
  split
  · exact ⟨h1, rfl, rfl, by simp⟩
  · split
    · exact ⟨h1, rfl, rfl, by simp [say]⟩
    · split
      · have k := keepsG_again l t (say { s with ran := s.ran.set i (ranAt s i + 1) } i 1 (t + 1))
        have hc : ∀ (a b : RS) (j : Nat), a.ran = b.ran → ranAt a j = ranAt b j := fun a b j e => by unfold ranAt; rw [e]
        exact ⟨fun j => by
          rw [hc _ _ j k.ran]; exact h1 j, k.tr, k.sh, k.ag⟩
      · exact ⟨h1, rfl, rfl, by simp [say]⟩
theorem keeps_runTick (t : Int) (s : RS) : KeepsT l.length s (runTick l t s) := by
  unfold runTick
  simp only
  split
  · exact ⟨fun i => .inl rfl, by simp, rfl, by simp⟩
  · obtain ⟨h1, h2, h3, h4⟩ := keeps_runAt l t (head l s).toNat { s with tr := s.tr ++ [head l s] }
    exact ⟨h1, by rw [h2]; simp, h3, h4⟩
/-- How long the lists are behind t ticks. -/
structure Lens (l : List Job) (t : Nat) (s : RS) : Prop where
  ran : ∀ i, 0 ≤ ranAt s i ∧ ranAt s i ≤ t
  tr : s.tr.length = t
  sh : s.sh.length ≤ t * (l.length * (l.length + 1))
  ag : s.ag.length ≤ t * l.length
theorem lens_start : Lens l 0 (start l) := by
  refine ⟨fun i => ?_, rfl, by simp [start], by simp [start]⟩
  unfold ranAt start
  simp only [List.getD_eq_getElem?_getD, List.getElem?_replicate]
  split <;> simp
theorem Lens.ran_eq {t : Nat} {s s' : RS} (h : Lens l t s) (e : s'.ran = s.ran) (i : Nat) : 0 ≤ ranAt s' i ∧ ranAt s' i ≤ t := by
  have := h.ran i; unfold ranAt at *; rw [e]; exact this
theorem lens_tick (t : Nat) (s : RS) (h : Lens l t s) : Lens l (t + 1) (tick l s t) := by
  have h1 := (keeps_late l t s).trans (keeps_arrivals l t l.length (late l t s))
  have h2 := keeps_runTick l t ((List.range l.length).foldl (arrive1 l t) (late l t s))
  unfold tick
  refine ⟨fun i => ?_, by rw [h2.tr, h1.tr, h.tr], ?_, ?_⟩
  · have := h.ran_eq l h1.ran i
    rcases h2.ran i with e | e <;> rw [e] <;> omega
  · rw [h2.sh]
    have a := h1.sh
    have b := h.sh
    rw [Nat.add_mul]; omega
  · have a := h2.ag
    rw [h1.ag] at a
    have b := h.ag
    rw [Nat.add_mul]; omega
end Rob
end Go.Proofs.YtjgegnjclmkpeaaDoor
