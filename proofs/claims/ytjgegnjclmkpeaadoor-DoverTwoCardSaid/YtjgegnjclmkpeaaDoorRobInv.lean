/- Plain: what holds of the robust scheduler's lists at each tick. No program in sight. -/
import Derived.Test.YtjgegnjclmkpeaaDoorRobModel
namespace Go.Proofs.YtjgegnjclmkpeaaDoor

/-! ### Sums over places -/
theorem sum_map_le {α : Type} (r : List α) (f g : α → Int) (h : ∀ i ∈ r, f i ≤ g i) : (r.map f).sum ≤ (r.map g).sum := by
  induction r with
  | nil => simp
  | cons x r ih =>
    have h1 := h x (by simp)
    have h2 := ih fun i hi => h i (by simp [hi])
    simp only [List.map_cons, List.sum_cons]; omega
theorem sum_map_lt {α : Type} (r : List α) (f g : α → Int) (x : α) (hx : x ∈ r) (h : ∀ i ∈ r, f i ≤ g i) (h1 : f x + 1 ≤ g x) : (r.map f).sum + 1 ≤ (r.map g).sum := by
  induction r with
  | nil => simp at hx
  | cons y r ih =>
    have hy := h y (by simp)
    have hr := sum_map_le r f g fun i hi => h i (by simp [hi])
    simp only [List.map_cons, List.sum_cons]
    rcases List.mem_cons.1 hx with rfl | hx
    · omega
    · have := ih hx fun i hi => h i (by simp [hi])
      omega
theorem sum_map_ge {α : Type} (r : List α) (f : α → Int) (x : α) (hx : x ∈ r) (h : ∀ i ∈ r, 0 ≤ f i) : f x ≤ (r.map f).sum := by
  induction r with
  | nil => simp at hx
  | cons y r ih =>
    have hy := h y (by simp)
    have hr := sum_map_le r (fun _ => 0) f fun i hi => h i (by simp [hi])
    have h0 : (r.map fun _ : α => (0 : Int)).sum = 0 := by
      clear ih hx h hr
      induction r with
      | nil => rfl
      | cons _ r ih => simp only [List.map_cons, List.sum_cons, ih]; rfl
    simp only [List.map_cons, List.sum_cons]
    rcases List.mem_cons.1 hx with rfl | hx
    · omega
    · have := ih hx fun i hi => h i (by simp [hi])
      omega

namespace Rob
section
variable (l : List Job)
/-- What of the jobs that are taken is needed up to a deadline. -/
def load (s : RS) (d : Int) : Int := ((List.range l.length).map fun i => if opn s i 1 = true ∧ (jb l i).dl ≤ d then max (need l s i) 0 else 0).sum
theorem needTo_lefts (s : RS) (d : Int) : needTo d (lefts l s) = load l s d := by
  unfold lefts load
  generalize List.range l.length = r
  induction r with
  | nil => rfl
  | cons i r ih =>
    simp only [List.map_cons, List.sum_cons]
    by_cases h : opn s i 1 = true
    · rw [List.filter_cons_of_pos (p := fun i => opn s i 1) h, List.map_cons, needTo_cons, ih]
      simp [h]
    · rw [List.filter_cons_of_neg (p := fun i => opn s i 1) h, ih]
      simp [h]
theorem load_nonneg (s : RS) (d : Int) : 0 ≤ load l s d := by rw [← needTo_lefts]; exact needTo_nonneg _ _

/-- The bounds that make edf's own limits idle. -/
structure Bd (s : RS) : Prop where
  len : l.length ≤ 200
  ok : ∀ j ∈ l, j.Ok
  ran : ∀ i, i < l.length → 0 ≤ ranAt s i ∧ ranAt s i ≤ (jb l i).work
theorem fits_iff {l : List Job} {s : RS} (hb : Bd l s) (now : Int) (h0 : -1000000 ≤ now) (h1 : now ≤ 1000000) :
    fits l s now = true ↔ ∀ i, i < l.length → opn s i 1 = true → load l s (jb l i).dl ≤ (jb l i).dl - now := by
  have hmay : edfMay now (lefts l s) = true := by
    unfold edfMay
    rw [Bool.and_eq_true, Bool.and_eq_true, List.all_eq_true, decide_eq_true_eq]
    refine ⟨by simp [inLeft, h0, h1], ?_, ?_⟩
    · have := List.length_filter_le (fun i => opn s i 1) (List.range l.length)
      have := hb.len
      simp only [lefts, List.length_map, List.length_range] at *
      omega
    · intro x hx
      simp only [lefts, List.mem_map, List.mem_filter, List.mem_range] at hx
      obtain ⟨i, ⟨hi, _⟩, rfl⟩ := hx
      have h2 := jb_ok hb.ok hi
      have h3 := hb.ran i hi
      have h4 := h2.charge1
      have h5 := h2.charge0
      have h6 := h2.rel0
      have h7 := h2.rel1
      have h8 := h2.dl1
      have h9 := h2.work_le
      simp only [inLeft, Bool.and_eq_true, decide_eq_true_eq]
      show (_ ∧ _) ∧ (-1000000 ≤ (jb l i).charge - ranAt s i ∧ (jb l i).charge - ranAt s i ≤ 1000000)
      refine ⟨⟨?_, ?_⟩, ⟨?_, ?_⟩⟩ <;> omega
  unfold fits fitsB
  rw [hmay, Bool.true_and, List.all_eq_true]
  simp only [decide_eq_true_eq, needTo_lefts]
  constructor
  · intro h i hi ho
    exact h ⟨(jb l i).dl, need l s i⟩ (by simp only [lefts, List.mem_map, List.mem_filter, List.mem_range]; exact ⟨i, ⟨hi, ho⟩, rfl⟩)
  · intro h x hx
    simp only [lefts, List.mem_map, List.mem_filter, List.mem_range] at hx
    obtain ⟨i, ⟨hi, ho⟩, rfl⟩ := hx
    exact h i hi ho
/-- Who is taken in s' is taken in s, and needs no more: then what fits in s fits in s'. -/
theorem load_mono {l : List Job} {s s' : RS} (h : ∀ i, i < l.length → opn s' i 1 = true → opn s i 1 = true ∧ ranAt s i ≤ ranAt s' i) (d : Int) : load l s' d ≤ load l s d := by
  refine sum_map_le _ _ _ fun i hi => ?_
  have hi := List.mem_range.1 hi
  by_cases ho : opn s' i 1 = true ∧ (jb l i).dl ≤ d
  · obtain ⟨h1, h2⟩ := h i hi ho.1
    rw [if_pos ho, if_pos ⟨h1, ho.2⟩]
    unfold need; omega
  · rw [if_neg ho]
    split <;> omega
theorem fits_mono {l : List Job} {s s' : RS} (hb : Bd l s) (hb' : Bd l s') {now : Int} (h0 : -1000000 ≤ now) (h1 : now ≤ 1000000)
    (h : ∀ i, i < l.length → opn s' i 1 = true → opn s i 1 = true ∧ ranAt s i ≤ ranAt s' i) (hf : fits l s now = true) : fits l s' now = true := by
  rw [fits_iff hb' now h0 h1]
  rw [fits_iff hb now h0 h1] at hf
  intro i hi ho
  have := hf i hi (h i hi ho).1
  have := load_mono h (jb l i).dl
  omega
end

/-! ### Reading behind a change -/
section
variable (s : RS) (i j : Nat) (k t v : Int)
theorem isAt_say : isAt (say s i k t) j = isAt s j := rfl
theorem ranAt_say : ranAt (say s i k t) j = ranAt s j := rfl
theorem tr_say : (say s i k t).tr = s.tr := rfl
theorem fa_say (hi : i < s.fa.length) : (say s i k t).fa.getD j (0, 0) = if j = i then (k, t) else s.fa.getD j (0, 0) := by
  show (s.fa.set i (k, t)).getD j (0, 0) = _
  rw [getD_set_eq]
  by_cases h : i = j
  · subst h; simp [hi]
  · simp [h, Ne.symm h]
theorem kindAt_say (hi : i < s.fa.length) : kindAt (say s i k t) j = if j = i then k else kindAt s j := by
  unfold kindAt; rw [fa_say _ _ _ _ _ hi]; split <;> rfl
end

/-! ### least, head -/
theorem least_spec (l : List Job) (s : RS) : -1 ≤ least l s ∧ least l s < l.length ∧ (0 ≤ least l s → opn s (least l s).toNat 1 = true ∧ (jb l (least l s).toNat).hard = false ∧ ranAt s (least l s).toNat < (jb l (least l s).toNat).bud) ∧
    (least l s < 0 → ∀ i, i < l.length → ¬ (opn s i 1 = true ∧ (jb l i).hard = false ∧ ranAt s i < (jb l i).bud)) := by
  unfold least
  have := foldl_range_inv (least1 l s) l.length (fun k b => -1 ≤ b ∧ b < k ∧ (0 ≤ b → opn s b.toNat 1 = true ∧ (jb l b.toNat).hard = false ∧ ranAt s b.toNat < (jb l b.toNat).bud) ∧
    (b < 0 → ∀ i, i < k → ¬ (opn s i 1 = true ∧ (jb l i).hard = false ∧ ranAt s i < (jb l i).bud))) (-1) ⟨by omega, by omega, by omega, fun _ i hi => absurd hi (by omega)⟩ ?_
  · exact this
  intro k b _ ⟨h1, h2, h3, h4⟩
  unfold least1
  split
  · rename_i hc
    refine ⟨h1, by omega, h3, fun hb i hi => ?_⟩
    by_cases e : i = k
    · subst e
      rintro ⟨a1, a2, a3⟩
      simp only [a1, a2, Bool.not_true, Bool.false_or, decide_eq_true_eq] at hc
      omega
    · exact h4 hb i (by omega)
  · rename_i hc
    simp only [Bool.or_eq_true, Bool.not_eq_true', decide_eq_true_eq, not_or, Bool.not_eq_false, Bool.not_eq_true, Int.not_le] at hc
    obtain ⟨⟨c1, c2⟩, c3⟩ := hc
    split
    · exact ⟨by omega, by omega, fun _ => by simpa using ⟨c1, c2, c3⟩, fun h => by omega⟩
    · rename_i hd
      simp only [Bool.or_eq_true, decide_eq_true_eq, not_or] at hd
      exact ⟨h1, by omega, h3, fun h => by omega⟩
theorem head_spec (l : List Job) (s : RS) : -1 ≤ head l s ∧ head l s < l.length ∧
    (0 ≤ head l s → opn s (head l s).toNat 1 = true ∧ ∀ i, i < l.length → opn s i 1 = true → (jb l (head l s).toNat).dl < (jb l i).dl ∨ ((jb l (head l s).toNat).dl = (jb l i).dl ∧ (head l s).toNat ≤ i)) ∧
    (head l s < 0 → ∀ i, i < l.length → opn s i 1 = false) := by
  unfold head
  have := foldl_range_inv (head1 l s) l.length (fun k b => -1 ≤ b ∧ b < k ∧
    (0 ≤ b → opn s b.toNat 1 = true ∧ ∀ i, i < k → opn s i 1 = true → (jb l b.toNat).dl < (jb l i).dl ∨ ((jb l b.toNat).dl = (jb l i).dl ∧ b.toNat ≤ i)) ∧
    (b < 0 → ∀ i, i < k → opn s i 1 = false)) (-1) ⟨by omega, by omega, by omega, fun _ i hi => absurd hi (by omega)⟩ ?_
  · exact this
  intro k b _ ⟨h1, h2, h3, h4⟩
  unfold head1
  split
  · rename_i hc
    simp only [Bool.and_eq_true, Bool.or_eq_true, decide_eq_true_eq] at hc
    refine ⟨by omega, by omega, fun _ => ⟨by simpa using hc.1, fun i hi ho => ?_⟩, fun h => by omega⟩
    simp only [Int.toNat_natCast]
    by_cases e : i = k
    · subst e; exact .inr ⟨rfl, Nat.le_refl _⟩
    · by_cases hb : b < 0
      · have := h4 hb i (by omega); rw [this] at ho; cases ho
      · have h5 := (h3 (by omega)).2 i (by omega) ho
        have h6 : (jb l k).dl < (jb l b.toNat).dl := by rcases hc.2 with h | h <;> omega
        omega
  · rename_i hc
    simp only [Bool.and_eq_true, Bool.or_eq_true, decide_eq_true_eq, not_and, not_or] at hc
    refine ⟨h1, by omega, fun hb => ⟨(h3 hb).1, fun i hi ho => ?_⟩, fun hb i hi => ?_⟩
    · by_cases e : i = k
      · subst e
        have := hc ho
        have : (b.toNat : Int) = b := by omega
        omega
      · exact (h3 hb).2 i (by omega) ho
    · by_cases e : i = k
      · subst e
        cases h : opn s i 1 with
        | false => rfl
        | true => exact absurd hb (hc h).1
      · exact h4 hb i (by omega)
end Rob

/-! ### The trace -/
/-- Each one that ran was released, ahead of its deadline, and had work left. -/
def TOk (l : List Job) (t : List Int) : Prop :=
  ∀ (p : List Int) (x : Int) (q : List Int), t = p ++ x :: q → x = -1 ∨ ∃ i : Nat, i < l.length ∧ x = i ∧ (l.getD i default).rel ≤ p.length ∧ (p.length : Int) < (l.getD i default).dl ∧ (p.count x : Int) < (l.getD i default).work
theorem TOk.nil (l : List Job) : TOk l [] := fun p x q h => by simp at h
theorem TOk.snoc {l : List Job} {t : List Int} (h : TOk l t) (x : Int) (hx : x = -1 ∨ ∃ i : Nat, i < l.length ∧ x = i ∧ (l.getD i default).rel ≤ t.length ∧ (t.length : Int) < (l.getD i default).dl ∧ (t.count x : Int) < (l.getD i default).work) : TOk l (t ++ [x]) := by
  intro p y q e
  rcases List.eq_nil_or_concat q with rfl | ⟨q', z, rfl⟩
  · have := List.append_inj' e rfl
    obtain ⟨rfl, h2⟩ := this
    simp only [List.cons.injEq, and_true] at h2
    subst h2
    exact hx
  · rw [show p ++ y :: q'.concat z = (p ++ y :: q') ++ [z] by simp] at e
    have := List.append_inj' e rfl
    exact h p y q' this.1
theorem traceGo_of (l : List Job) (t0 t : List Int) (ran : List Int) (hl : ran.length = l.length) (h : TOk l (t0 ++ t)) (hr : ∀ i, i < l.length → ran.getD i 0 = t0.count (i : Int)) : traceGo l t0.length ran t = true := by
  induction t generalizing t0 ran with
  | nil => rfl
  | cons x t ih =>
    have hx := h t0 x t rfl
    have happ : t0 ++ x :: t = (t0 ++ [x]) ++ t := by simp
    unfold traceGo
    split
    · rename_i e
      have := ih (t0 ++ [x]) ran hl (by rw [← happ]; exact h) (fun i hi => by
        rw [hr i hi, List.count_append, e]
        simp only [List.count_singleton]
        rw [if_neg (by simp only [beq_iff_eq]; omega)]; rfl)
      simpa using this
    · rename_i e
      obtain ⟨i, hi, rfl, h1, h2, h3⟩ := hx.resolve_left e
      have hri := hr i hi
      rw [if_neg (by simp only [Int.toNat_natCast]; omega)]
      have := ih (t0 ++ [(i : Int)]) (ran.set i (ran.getD i 0 + 1)) (by simpa using hl) (by rw [← happ]; exact h) (fun j hj => by
        rw [getD_set_eq, List.count_append, List.count_singleton]
        by_cases e2 : i = j
        · subst e2; rw [if_pos ⟨rfl, by omega⟩, hri]; simp
        · rw [if_neg (fun hh => e2 hh.1), hr j hj, if_neg (by simp only [beq_iff_eq]; omega)]; simp)
      simpa using this
theorem traceOk_of {l : List Job} {t : List Int} (h : TOk l t) (hl : t.length ≤ 10000) : traceOk l t = true := by
  unfold traceOk
  rw [decide_eq_true hl, Bool.true_and]
  have := traceGo_of l [] t (List.replicate l.length 0) (by simp) h (fun i hi => by simp [List.getD_eq_getElem?_getD, hi])
  simpa using this

/-! ### DoneAt -/
theorem doneGo_none (i left tick : Int) (t : List Int) (h : (t.count i : Int) < left) : doneGo i left tick t = (0, false) := by
  induction t generalizing left tick with
  | nil => rfl
  | cons k t ih =>
    unfold doneGo
    by_cases e : k = i
    · subst e
      simp only [List.count_cons_self] at h
      simp only [if_true]
      rw [if_neg (by omega)]
      exact ih _ _ (by omega)
    · rw [List.count_cons_of_ne (by simpa using e)] at h
      simp only [if_neg e]
      rw [if_neg (by omega)]
      exact ih _ _ h
/-- Once done, done. -/
theorem doneGo_append (i left tick : Int) (t u : List Int) {at_ : Int} (h : doneGo i left tick t = (at_, true)) : doneGo i left tick (t ++ u) = (at_, true) := by
  induction t generalizing left tick with
  | nil => simp [doneGo] at h
  | cons k t ih =>
    unfold doneGo at h
    rw [List.cons_append]
    unfold doneGo
    generalize (if k = i then left - 1 else left) = y at h ⊢
    by_cases e : y = 0
    · rw [if_pos e] at h ⊢; exact h
    · rw [if_neg e] at h ⊢; exact ih _ _ h
/-- The tick that completes the work. -/
theorem doneGo_snoc (i left tick : Int) (t : List Int) (h : (t.count i : Int) + 1 = left) : doneGo i left tick (t ++ [i]) = (tick + t.length + 1, true) := by
  induction t generalizing left tick with
  | nil =>
    simp only [List.count_nil] at h
    simp only [List.nil_append, doneGo, if_true]
    rw [if_pos (by omega)]; simp
  | cons k t ih =>
    rw [List.cons_append]
    unfold doneGo
    by_cases e : k = i
    · subst e
      simp only [List.count_cons_self] at h
      simp only [if_true]
      rw [if_neg (by omega), ih _ _ (by omega)]
      simp only [List.length_cons]
      congr 1; omega
    · rw [List.count_cons_of_ne (by simpa using e)] at h
      simp only [if_neg e]
      rw [if_neg (by omega), ih _ _ h]
      simp only [List.length_cons]
      congr 1; omega
end Go.Proofs.YtjgegnjclmkpeaaDoor
