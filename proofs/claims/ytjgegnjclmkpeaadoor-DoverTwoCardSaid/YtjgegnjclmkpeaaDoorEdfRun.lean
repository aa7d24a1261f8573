/- Plain: the earliest deadline first, tick by tick; where it meets all charges no interval is asked too much. No program in sight. -/
import Derived.Test.YtjgegnjclmkpeaaDoorRobInv
namespace Go.Proofs.YtjgegnjclmkpeaaDoor
namespace Rob

/-- job.ByDeadline: a stable sort of the places. -/
def byDl (l : List Job) : List Nat := isort (fun a b => decide ((jb l a).dl < (jb l b).dl)) (List.range l.length)
def pickP (l : List Job) (left : List Int) (t : Int) (i : Nat) : Bool := decide ((jb l i).rel ≤ t) && decide (0 < left.getD i 0)
def pick (l : List Job) (left : List Int) (t : Int) : Option Nat := (byDl l).find? (pickP l left t)
def edfStep (l : List Job) (s : List Int × List Int) (t : Nat) : List Int × List Int :=
  match pick l s.1 t with
  | none => (s.1, s.2 ++ [-1])
  | some i => (s.1.set i (s.1.getD i 0 - 1), s.2 ++ [(i : Int)])
def edfAt (l : List Job) (need : Job → Int) (t : Nat) : List Int × List Int := (List.range t).foldl (edfStep l) (l.map need, [])
theorem edfAt_succ (l : List Job) (need : Job → Int) (t : Nat) : edfAt l need (t + 1) = edfStep l (edfAt l need t) t := by
  unfold edfAt; rw [foldl_range_succ]

/-! ### The sorted places -/
/-- Ahead of: by deadline, then by place. -/
def ahead (l : List Job) (a b : Nat) : Prop := (jb l a).dl < (jb l b).dl ∨ ((jb l a).dl = (jb l b).dl ∧ a < b)
theorem insR_desc (l : List Job) (x : Nat) : ∀ (r : List Nat), (∀ y ∈ r, y < x) → r.Pairwise (fun a b => ahead l b a) → (insR (fun a b => decide ((jb l a).dl < (jb l b).dl)) x r).Pairwise (fun a b => ahead l b a)
  | [], _, _ => by simp [insR]
  | y :: ys, hlt, hp => by
    have hp' := List.pairwise_cons.1 hp
    unfold insR
    split
    · rename_i h
      simp only [decide_eq_true_eq] at h
      have ih := insR_desc l x ys (fun z hz => hlt z (by simp [hz])) hp'.2
      refine List.pairwise_cons.2 ⟨fun z hz => ?_, ih⟩
      have hz' := (insR_perm _ x ys).mem_iff.1 hz
      rcases List.mem_cons.1 hz' with rfl | hz2
      · exact .inl h
      · exact hp'.1 z hz2
    · rename_i h
      simp only [decide_eq_true_eq] at h
      have hxy : ahead l y x := by
        have := hlt y (by simp)
        unfold ahead; omega
      refine List.pairwise_cons.2 ⟨fun z hz => ?_, hp⟩
      rcases List.mem_cons.1 hz with rfl | hz2
      · exact hxy
      · have := hp'.1 z hz2
        unfold ahead at *; omega
theorem byDl_sorted (l : List Job) : (byDl l).Pairwise (ahead l) := by
  unfold byDl isort
  rw [List.pairwise_reverse]
  have : ∀ n, ((List.range n).foldl (fun r x => insR (fun a b => decide ((jb l a).dl < (jb l b).dl)) x r) []).Pairwise (fun a b => ahead l b a) ∧ ((List.range n).foldl (fun r x => insR (fun a b => decide ((jb l a).dl < (jb l b).dl)) x r) []).Perm (List.range n) := by
    intro n
    induction n with
    | zero => exact ⟨List.Pairwise.nil, List.Perm.refl _⟩
    | succ n ih =>
      rw [foldl_range_succ]
      refine ⟨insR_desc l n _ (fun y hy => List.mem_range.1 (ih.2.mem_iff.1 hy)) ih.1, ?_⟩
      refine (insR_perm _ n _).trans ?_
      rw [List.range_succ]
      exact (ih.2.cons n).trans (List.perm_append_singleton n (List.range n)).symm
  exact (this l.length).1
theorem byDl_mem (l : List Job) (i : Nat) : i ∈ byDl l ↔ i < l.length := by
  unfold byDl
  rw [(isort_perm _ _).mem_iff, List.mem_range]
theorem find_sorted {α : Type} (R : α → α → Prop) (p : α → Bool) : ∀ (r : List α), r.Pairwise R → ∀ x, r.find? p = some x → x ∈ r ∧ p x = true ∧ ∀ y ∈ r, p y = true → y = x ∨ R x y
  | [], _, x, h => by simp at h
  | a :: r, hp, x, h => by
    have hp' := List.pairwise_cons.1 hp
    rw [List.find?_cons] at h
    cases ha : p a with
    | true =>
      rw [ha] at h
      simp only [Option.some.injEq] at h
      subst h
      refine ⟨by simp, ha, fun y hy hy2 => ?_⟩
      rcases List.mem_cons.1 hy with rfl | hy3
      · exact .inl rfl
      · exact .inr (hp'.1 y hy3)
    | false =>
      rw [ha] at h
      obtain ⟨h1, h2, h3⟩ := find_sorted R p r hp'.2 x h
      refine ⟨by simp [h1], h2, fun y hy hy2 => ?_⟩
      rcases List.mem_cons.1 hy with rfl | hy3
      · rw [ha] at hy2; cases hy2
      · exact h3 y hy3 hy2
theorem pick_some {l : List Job} {left : List Int} {t : Int} {i : Nat} (h : pick l left t = some i) : i < l.length ∧ pickP l left t i = true ∧ ∀ j, j < l.length → pickP l left t j = true → (jb l i).dl < (jb l j).dl ∨ ((jb l i).dl = (jb l j).dl ∧ i ≤ j) := by
  obtain ⟨h1, h2, h3⟩ := find_sorted (ahead l) _ _ (byDl_sorted l) i h
  refine ⟨(byDl_mem l i).1 h1, h2, fun j hj hp => ?_⟩
  rcases h3 j ((byDl_mem l j).2 hj) hp with rfl | h
  · exact .inr ⟨rfl, Nat.le_refl _⟩
  · unfold ahead at h; omega
theorem pick_none {l : List Job} {left : List Int} {t : Int} (h : pick l left t = none) : ∀ j, j < l.length → pickP l left t j = false := fun j hj => by
  have := List.find?_eq_none.1 h j ((byDl_mem l j).2 hj)
  simpa using this

/-! ### What a run of the charges says -/
/-- Of a run: counts and what is left; nobody runs ahead of its release. -/
structure EInv (l : List Job) (need : Job → Int) (t : Nat) (s : List Int × List Int) : Prop where
  len : s.1.length = l.length
  tlen : s.2.length = t
  cnt : ∀ i, i < l.length → s.1.getD i 0 + (s.2.count (i : Int) : Int) = need (jb l i)
  early : ∀ i, i < l.length → ∀ a : Nat, a ≤ t → (a : Int) ≤ (jb l i).rel → (s.2.take a).count (i : Int) = 0
theorem einv_start (l : List Job) (need : Job → Int) : EInv l need 0 (l.map need, []) := by
  refine ⟨by simp, rfl, fun i hi => ?_, fun i hi a ha _ => by simp⟩
  simp [jb, List.getD_eq_getElem?_getD, List.getElem?_eq_getElem hi]
theorem einv_step {l : List Job} {need : Job → Int} {t : Nat} {s : List Int × List Int} (h : EInv l need t s) : EInv l need (t + 1) (edfStep l s t) := by
  have htake : ∀ (x : Int) (a : Nat), a ≤ t → (s.2 ++ [x]).take a = s.2.take a := fun x a ha => by rw [List.take_append_of_le_length (by rw [h.tlen]; exact ha)]
  have hfull : ∀ (x : Int), (s.2 ++ [x]).take (t + 1) = s.2 ++ [x] := fun x => List.take_of_length_le (by simp [h.tlen])
  have hlate : ∀ i, i < l.length → (t : Int) < (jb l i).rel → s.2.count (i : Int) = 0 := fun i hi hr => by
    have := h.early i hi t (Nat.le_refl _) (by omega)
    rwa [List.take_of_length_le (by rw [h.tlen]; exact Nat.le_refl _)] at this
  unfold edfStep
  cases hp : pick l s.1 t with
  | none =>
    refine ⟨h.len, by simp [h.tlen], fun i hi => ?_, fun i hi a ha hr => ?_⟩
    · rw [List.count_append]
      have := h.cnt i hi
      have e : ([(-1 : Int)].count (i : Int)) = 0 := by rw [List.count_singleton]; simp
      rw [e]; simpa using this
    · by_cases hat : a ≤ t
      · show ((s.2 ++ [(-1 : Int)]).take a).count _ = 0
        rw [htake _ _ hat]; exact h.early i hi a hat hr
      · obtain rfl : a = t + 1 := by omega
        show ((s.2 ++ [(-1 : Int)]).take (t + 1)).count _ = 0
        rw [hfull, List.count_append, hlate i hi (by omega)]
        rw [List.count_singleton]; simp
  | some k =>
    obtain ⟨hk, hpk, -⟩ := pick_some hp
    simp only [pickP, Bool.and_eq_true, decide_eq_true_eq] at hpk
    refine ⟨by simp [h.len], by simp [h.tlen], fun i hi => ?_, fun i hi a ha hr => ?_⟩
    · have := h.cnt i hi
      show (s.1.set k (s.1.getD k 0 - 1)).getD i 0 + _ = _
      rw [getD_set_eq, List.count_append, List.count_singleton]
      by_cases hik : k = i
      · subst hik
        rw [if_pos ⟨rfl, by rw [h.len]; exact hk⟩, if_pos (by simp)]
        omega
      · rw [if_neg (fun hh => hik hh.1), if_neg (by simp; omega)]
        omega
    · by_cases hat : a ≤ t
      · show ((s.2 ++ [(k : Int)]).take a).count _ = 0
        rw [htake _ _ hat]; exact h.early i hi a hat hr
      · obtain rfl : a = t + 1 := by omega
        show ((s.2 ++ [(k : Int)]).take (t + 1)).count _ = 0
        rw [hfull, List.count_append, hlate i hi (by omega), List.count_singleton]
        have : ¬ ((k : Int) = (i : Int)) := fun e => by
          have : k = i := by omega
          subst this; omega
        simp [this]
theorem einv_at (l : List Job) (need : Job → Int) (t : Nat) : EInv l need t (edfAt l need t) := by
  induction t with
  | zero => exact einv_start l need
  | succ t ih => rw [edfAt_succ]; exact einv_step ih
/-- All counts together are no more than the ticks. -/
theorem count_sum_le (n : Nat) (r : List Int) : ((List.range n).map fun i : Nat => (r.count (i : Int) : Int)).sum ≤ r.length := by
  induction r with
  | nil =>
    have : ((List.range n).map fun i : Nat => (([] : List Int).count (i : Int) : Int)) = (List.range n).map fun _ : Nat => (0 : Int) := by simp
    rw [this]
    have h0 : ∀ q : List Nat, (q.map fun _ => (0 : Int)).sum = 0 := fun q => by
      induction q with
      | nil => rfl
      | cons a q ih => rw [List.map_cons, List.sum_cons, ih]; rfl
    rw [h0]; simp
  | cons x r ih =>
    have h1 : ∀ m, ((List.range m).map fun i : Nat => (if x = (i : Int) then (1 : Int) else 0)).sum ≤ 1 ∧ ((∀ i : Nat, i < m → x ≠ (i : Int)) → ((List.range m).map fun i : Nat => (if x = (i : Int) then (1 : Int) else 0)).sum = 0) := by
      intro m
      induction m with
      | zero => simp
      | succ m ihm =>
        rw [List.range_succ, List.map_append, List.sum_append]
        simp only [List.map_cons, List.map_nil, List.sum_cons, List.sum_nil]
        refine ⟨?_, fun hne => ?_⟩
        · by_cases hx : x = (m : Int)
          · rw [ihm.2 (fun i hi => by omega), if_pos hx]; omega
          · rw [if_neg hx]; have := ihm.1; omega
        · rw [ihm.2 (fun i hi => hne i (by omega)), if_neg (hne m (by omega))]; omega
    have h2 : ((List.range n).map fun i : Nat => ((x :: r).count (i : Int) : Int)).sum = ((List.range n).map fun i : Nat => (r.count (i : Int) : Int)).sum + ((List.range n).map fun i : Nat => (if x = (i : Int) then (1 : Int) else 0)).sum := by
      generalize List.range n = q
      induction q with
      | nil => rfl
      | cons a q ihq =>
        rw [List.map_cons, List.map_cons, List.map_cons, List.sum_cons, List.sum_cons, List.sum_cons, ihq, List.count_cons]
        by_cases hx : x = (a : Int)
        · simp [hx]; omega
        · simp [hx]; omega
    rw [h2, List.length_cons]
    have := (h1 n).1
    omega
/-- Whether the earliest deadline first meets all charges. -/
def meetsAll (l : List Job) : Prop := ∀ i, i < l.length → (jb l i).charge ≤ (((edfAt l Job.charge (endOf l).toNat).2.take (jb l i).dl.toNat).count (i : Int) : Int)
/-- No interval is asked too much. -/
theorem demand {l : List Job} (hm : meetsAll l) (a d : Nat) (had : a ≤ d) :
    ((List.range l.length).map fun i => if (a : Int) ≤ (jb l i).rel ∧ (jb l i).dl ≤ d then (jb l i).charge else 0).sum ≤ (d : Int) - a := by
  have hE := einv_at l Job.charge (endOf l).toNat
  unfold meetsAll at hm
  generalize edfAt l Job.charge (endOf l).toNat = S at hE hm
  generalize (endOf l).toNat = E at hE
  obtain ⟨lf, T⟩ := S
  have hlen : T.length = E := hE.tlen
  have hterm : ∀ i ∈ List.range l.length, (if (a : Int) ≤ (jb l i).rel ∧ (jb l i).dl ≤ d then (jb l i).charge else 0) ≤ ((((T.take d).drop a).count (i : Int) : Nat) : Int) := by
    intro i hi
    have hi := List.mem_range.1 hi
    split
    · rename_i hc
      have h1 : (jb l i).charge ≤ (((T.take (jb l i).dl.toNat).count (i : Int) : Nat) : Int) := hm i hi
      have hdl : (jb l i).dl.toNat ≤ d := by omega
      have h2 : (T.take (jb l i).dl.toNat).count (i : Int) ≤ (T.take d).count (i : Int) := by
        rw [← Nat.min_eq_left hdl, ← List.take_take]
        exact (List.take_sublist _ _).count_le _
      have h3 : (T.take d).count (i : Int) = ((T.take d).take a).count (i : Int) + ((T.take d).drop a).count (i : Int) := by
        rw [← List.count_append, List.take_append_drop]
      have h4 : ((T.take d).take a).count (i : Int) = 0 := by
        rw [List.take_take]
        by_cases haE : a ≤ E
        · rw [Nat.min_eq_left had]
          exact hE.early i hi a haE hc.1
        · have h5 : (T.take E).count (i : Int) = 0 := hE.early i hi E (Nat.le_refl _) (by omega)
          have : (T.take (min a d)).count (i : Int) ≤ (T.take E).count (i : Int) := by
            rw [List.take_of_length_le (i := E) (by omega)]
            exact (List.take_sublist _ _).count_le _
          omega
      omega
    · omega
  refine Int.le_trans (sum_map_le _ _ _ hterm) ?_
  refine Int.le_trans (count_sum_le _ _) ?_
  rw [List.length_drop, List.length_take]
  omega
end Rob
end Go.Proofs.YtjgegnjclmkpeaaDoor
