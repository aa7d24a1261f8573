/- Plain: Go's insertion sort over an array is the insertion from the right end over a list. -/
import Derived.Test.YtjgegnjclmkpeaaDoorRobModel
import Derived.Sort.LotA
namespace Go.Proofs.YtjgegnjclmkpeaaDoor

section
variable {α : Type} [Inhabited α] (lt : α → α → Bool)
theorem get!_toList (d : Array α) (j : Nat) : d[j]! = d.toList.getD j default := by
  simp only [getElem!_def, List.getD_eq_getElem?_getD, Array.getElem?_toList]
  cases d[j]? <;> rfl
theorem getD_mid (p q : List α) (x : α) : (p ++ x :: q).getD p.length default = x := by simp [List.getD_eq_getElem?_getD]
theorem insInner_list (x : α) (r t : List α) : ∀ (d : Array α), d.toList = r.reverse ++ x :: t → (Sort.insInner lt 0 r.length d).toList = (insR lt x r).reverse ++ t := by
  induction r generalizing t with
  | nil => intro d hd; simp only [List.reverse_nil, List.nil_append] at hd; simp [Sort.insInner, insR, hd]
  | cons y ys ih =>
    intro d hd
    have e1 : d.toList = ys.reverse ++ y :: x :: t := by simp only [List.reverse_cons, List.append_assoc, List.cons_append, List.nil_append] at hd; exact hd
    have hy : d[ys.length]! = y := by
      rw [get!_toList, e1]
      have := getD_mid ys.reverse (x :: t) y
      rwa [List.length_reverse] at this
    have hx : d[ys.length + 1]! = x := by
      rw [get!_toList, e1]
      simp [List.getD_eq_getElem?_getD]
    rw [List.length_cons]
    unfold Sort.insInner insR
    rw [hx, hy]
    by_cases h : lt x y = true
    · rw [if_pos (by simp [h]), if_pos h]
      have hsw : (Sort.swp d (ys.length + 1) ys.length).toList = ys.reverse ++ x :: (y :: t) := by
        unfold Sort.swp
        rw [hx, hy]
        simp only [Array.toList_setIfInBounds, e1]
        have a1 : (ys.reverse ++ y :: x :: t).set (ys.length + 1) y = ys.reverse ++ y :: y :: t := by
          rw [List.set_append_right _ _ (by simp)]
          simp
        rw [a1, List.set_append_right _ _ (by simp)]
        simp
      rw [ih (y :: t) _ hsw]
      simp
    · rw [if_neg (by simp [h]), if_neg h]
      rw [hd]; simp
theorem insOuter_list (b : Nat) (d0 : List α) (hb : b ≤ d0.length) : ∀ (k i : Nat) (d : Array α), b - i = k → i ≤ b → d.toList = ((d0.take i).foldl (fun r x => insR lt x r) []).reverse ++ d0.drop i →
    (Sort.insOuter lt 0 b i d).toList = ((d0.take b).foldl (fun r x => insR lt x r) []).reverse ++ d0.drop b := by
  intro k
  induction k with
  | zero =>
    intro i d hk hi hd
    obtain rfl : i = b := by omega
    rw [Sort.insOuter, if_neg (by omega)]; exact hd
  | succ k ih =>
    intro i d hk hi hd
    rw [Sort.insOuter, if_pos (by omega)]
    have hil : i < d0.length := by omega
    refine ih (i + 1) _ (by omega) (by omega) ?_
    have hlen : ((d0.take i).foldl (fun r x => insR lt x r) []).length = i := by
      have := (isort_fold_perm lt (d0.take i) []).length_eq
      simpa [Nat.min_eq_left (Nat.le_of_lt hil)] using this
    have hdrop : d0.drop i = d0[i] :: d0.drop (i + 1) := List.drop_eq_getElem_cons hil
    rw [hdrop] at hd
    have := insInner_list lt d0[i] ((d0.take i).foldl (fun r x => insR lt x r) []) (d0.drop (i + 1)) d hd
    rw [hlen] at this
    rw [this, List.take_succ_eq_append_getElem hil, List.foldl_append]
    rfl
/-- The whole. -/
theorem insertionSort_list (d : Array α) : (Sort.insertionSort lt d 0 d.size).toList = isort lt d.toList := by
  unfold Sort.insertionSort isort
  rcases Nat.eq_zero_or_pos d.size with h | h
  · rw [Sort.insOuter, if_neg (by omega)]
    have : d.toList = [] := by simpa using h
    rw [this]; rfl
  · have hl : d.toList.length = d.size := by simp
    have := insOuter_list lt d.size d.toList (by omega) (d.size - 1) 1 d (by omega) (by omega) (by
      cases hd : d.toList with
      | nil => rw [hd] at hl; simp at hl; omega
      | cons x r => simp [insR])
    rw [show 0 + 1 = 1 from rfl, this, ← hl, List.take_length, List.drop_length, List.append_nil]
omit [Inhabited α] in
/-- Sorting what a map leads to. -/
theorem insR_map {β : Type} (f : α → β) (lt' : β → β → Bool) (h : ∀ x y, lt' (f x) (f y) = lt x y) (x : α) (r : List α) : insR lt' (f x) (r.map f) = (insR lt x r).map f := by
  induction r with
  | nil => rfl
  | cons y r ih =>
    simp only [List.map_cons, insR, h]
    split
    · rw [ih]; rfl
    · rfl
omit [Inhabited α] in
theorem isort_map {β : Type} (f : α → β) (lt' : β → β → Bool) (h : ∀ x y, lt' (f x) (f y) = lt x y) (l : List α) : isort lt' (l.map f) = (isort lt l).map f := by
  unfold isort
  have : ∀ (l r : List α), (l.map f).foldl (fun r x => insR lt' x r) (r.map f) = (l.foldl (fun r x => insR lt x r) r).map f := by
    intro l
    induction l with
    | nil => intro r; rfl
    | cons x l ih => intro r; simp only [List.map_cons, List.foldl_cons, insR_map lt f lt' h]; exact ih _
  have h2 := this l []
  rw [List.map_nil] at h2
  rw [h2, List.map_reverse]
end
end Go.Proofs.YtjgegnjclmkpeaaDoor
