/- Plain: package edf's feasibility test as a function on lists, and what it says. No program in sight. -/
import Derived.Test.YtjgegnjclmkpeaaDoorJob
namespace Go.Proofs.YtjgegnjclmkpeaaDoor

/-- What is left of a job: its deadline, its need. -/
structure Left where
  dl : Int
  need : Int
instance : Inhabited Left := ⟨⟨0, 0⟩⟩
def inLeft (x : Int) : Bool := decide (-1000000 ≤ x) && decide (x ≤ 1000000)
def edfMay (now : Int) (l : List Left) : Bool := inLeft now && (decide (l.length ≤ 1000) && l.all fun x => inLeft x.dl && inLeft x.need)
/-- The sum of the needs of all whose deadline is at most d. -/
def needTo (d : Int) (l : List Left) : Int := (l.map fun y => if y.dl ≤ d then max y.need 0 else 0).sum
/-- Fits, as the document says it. -/
def fitsB (now : Int) (l : List Left) : Bool := edfMay now l && l.all fun x => decide (needTo x.dl l ≤ x.dl - now)

theorem needTo_nil (d : Int) : needTo d [] = 0 := rfl
theorem needTo_cons (d : Int) (x : Left) (l : List Left) : needTo d (x :: l) = (if x.dl ≤ d then max x.need 0 else 0) + needTo d l := by simp [needTo]
theorem needTo_nonneg (d : Int) (l : List Left) : 0 ≤ needTo d l := by
  induction l with
  | nil => simp [needTo_nil]
  | cons x l ih => rw [needTo_cons]; split <;> omega
theorem needTo_append (d : Int) (l m : List Left) : needTo d (l ++ m) = needTo d l + needTo d m := by simp [needTo, List.sum_append]
theorem needTo_perm {l m : List Left} (h : l.Perm m) (d : Int) : needTo d l = needTo d m := by
  induction h with
  | nil => rfl
  | cons x _ ih => rw [needTo_cons, needTo_cons, ih]
  | swap x y l => simp only [needTo_cons]; omega
  | trans _ _ ih1 ih2 => exact ih1.trans ih2

/-- The loop of Slack, over the sorted list: 'first', what was needed so far, the least so far. -/
def slackLoop (now : Int) : Bool → Int → Int → List Left → Int
  | _, _, least, [] => least
  | first, need, least, x :: s =>
    slackLoop now false (need + max x.need 0) (if first || decide (x.dl - now - (need + max x.need 0) < least) then x.dl - now - (need + max x.need 0) else least) s

/-- Over a sorted list the least is at least 0 just where each prefix fits. -/
theorem slackLoop_false (now : Int) (s : List Left) : ∀ (need least : Int), 0 ≤ slackLoop now false need least s ↔ 0 ≤ least ∧ ∀ p x q, s = p ++ x :: q → need + needTo x.dl (p.map fun y => ⟨x.dl, y.need⟩) + max x.need 0 ≤ x.dl - now := by
  induction s with
  | nil => intro need least; simp [slackLoop]
  | cons y s ih =>
    intro need least
    simp only [slackLoop, Bool.false_or, decide_eq_true_eq]
    rw [ih]
    constructor
    · rintro ⟨h1, h2⟩
      have hy : 0 ≤ y.dl - now - (need + max y.need 0) ∧ 0 ≤ least := by
        split at h1 <;> omega
      refine ⟨hy.2, fun p x q e => ?_⟩
      cases p with
      | nil =>
        simp only [List.nil_append, List.cons.injEq] at e
        obtain ⟨rfl, rfl⟩ := e
        simp only [List.map_nil, needTo_nil]; omega
      | cons z p =>
        simp only [List.cons_append, List.cons.injEq] at e
        obtain ⟨rfl, rfl⟩ := e
        have := h2 p x q rfl
        simp only [List.map_cons, needTo_cons, Int.le_refl, if_true]
        omega
    · rintro ⟨h1, h2⟩
      have hy := h2 [] y s rfl
      simp only [List.map_nil, needTo_nil] at hy
      refine ⟨by split <;> omega, fun p x q e => ?_⟩
      have := h2 (y :: p) x q (by rw [e]; rfl)
      simp only [List.map_cons, needTo_cons, Int.le_refl, if_true] at this
      omega
/-- All of a list at one deadline: the sum of all needs. -/
theorem needTo_at (d : Int) (p : List Left) (h : ∀ y ∈ p, y.dl ≤ d) : needTo d (p.map fun y => ⟨d, y.need⟩) = needTo d p := by
  induction p with
  | nil => rfl
  | cons y p ih =>
    simp only [List.map_cons, needTo_cons, Int.le_refl, if_true]
    rw [ih (fun z hz => h z (by simp [hz])), if_pos (h y (by simp))]
theorem slackLoop_true (now need least : Int) (x : Left) (s : List Left) : slackLoop now true need least (x :: s) = slackLoop now false (need + max x.need 0) (x.dl - now - (need + max x.need 0)) s := by
  simp [slackLoop]
/-- Over the sorted list of a list that is not empty: Slack is at least 0 just where all fit. -/
theorem slack_fits (now : Int) (l s : List Left) (hp : s.Perm l) (hs : s.Pairwise fun a b => a.dl ≤ b.dl) (hne : l ≠ []) :
    decide (0 ≤ slackLoop now true 0 0 s) = l.all fun x => decide (needTo x.dl l ≤ x.dl - now) := by
  cases s with
  | nil => exact absurd hp.symm.eq_nil hne
  | cons x0 s =>
    rw [Bool.eq_iff_iff, decide_eq_true_eq, List.all_eq_true, slackLoop_true, slackLoop_false]
    simp only [decide_eq_true_eq]
    have key : ∀ x ∈ l, needTo x.dl l = needTo x.dl (x0 :: s) := fun x _ => (needTo_perm hp x.dl).symm
    constructor
    · rintro ⟨h1, h2⟩ x hx
      rw [key x hx]
      -- the last one with this deadline
      have H : ∀ (p q : List Left), x0 :: s = p ++ q → (∀ y ∈ q, x.dl < y.dl) → (∀ y ∈ p, y.dl ≤ x.dl) → p ≠ [] → (∀ z, p.getLast? = some z → z.dl = x.dl) → needTo x.dl (x0 :: s) ≤ x.dl - now := by
        intro p q e hq hp' hpn hl
        have eq0 : needTo x.dl q = 0 := by
          clear e
          induction q with
          | nil => rfl
          | cons y q ih => rw [needTo_cons, if_neg (by have := hq y (by simp); omega), ih (fun z hz => hq z (by simp [hz]))]; rfl
        rw [e, needTo_append, eq0]
        obtain ⟨p', z, rfl⟩ : ∃ p' z, p = p' ++ [z] := ⟨p.dropLast, p.getLast hpn, (List.dropLast_concat_getLast hpn).symm⟩
        have hz := hl z (by simp)
        rw [needTo_append, needTo_cons, needTo_nil, if_pos (by omega)]
        cases p' with
        | nil =>
          simp only [List.nil_append, List.singleton_append, List.cons.injEq] at e
          obtain ⟨rfl, rfl⟩ := e
          simp only [needTo_nil]; omega
        | cons y0 p'' =>
          simp only [List.cons_append, List.append_assoc, List.cons.injEq] at e
          obtain ⟨rfl, e⟩ := e
          have := h2 p'' z q (by rw [e]; simp)
          have hp'' : ∀ y ∈ p'', y.dl ≤ z.dl := fun y hy => by have := hp' y (by simp [hy]); omega
          rw [needTo_at _ _ hp''] at this
          rw [needTo_cons, if_pos (by have := hp' x0 (by simp); omega), ← hz]
          omega
      have hmem : x ∈ x0 :: s := hp.symm.mem_iff.1 hx
      -- split the sorted list where the deadlines pass x.dl
      have split : ∀ (t : List Left), t.Pairwise (fun a b => a.dl ≤ b.dl) → ∃ p q, t = p ++ q ∧ (∀ y ∈ q, x.dl < y.dl) ∧ (∀ y ∈ p, y.dl ≤ x.dl) := by
        intro t ht
        induction t with
        | nil => exact ⟨[], [], rfl, by simp, by simp⟩
        | cons y t ih =>
          obtain ⟨p, q, e, h3, h4⟩ := ih ht.tail
          by_cases hy : y.dl ≤ x.dl
          · exact ⟨y :: p, q, by rw [e]; rfl, h3, fun z hz => by
              rcases List.mem_cons.1 hz with rfl | hz
              · exact hy
              · exact h4 z hz⟩
          · refine ⟨[], y :: t, rfl, fun z hz => ?_, by simp⟩
            rcases List.mem_cons.1 hz with rfl | hz
            · omega
            · have := List.rel_of_pairwise_cons ht hz; omega
      obtain ⟨p, q, e, h3, h4⟩ := split _ hs
      have hxp : x ∈ p := by
        rw [e] at hmem
        rcases List.mem_append.1 hmem with h | h
        · exact h
        · exact absurd (h3 x h) (by omega)
      have hpn : p ≠ [] := by rintro rfl; simp at hxp
      refine H p q e h3 h4 hpn fun z hz => ?_
      have hzm : z ∈ p := List.mem_of_getLast? hz
      have h5 := h4 z hzm
      have hpp : p.Pairwise (fun a b => a.dl ≤ b.dl) := by rw [e] at hs; exact (List.pairwise_append.1 hs).1
      obtain ⟨p', rfl⟩ : ∃ p', p = p' ++ [z] := ⟨p.dropLast, by
        have := (List.getLast?_eq_some_iff.1 hz)
        obtain ⟨ys, rfl⟩ := this
        simp⟩
      rcases List.mem_append.1 hxp with h | h
      · have h6 : x.dl ≤ z.dl := (List.pairwise_append.1 hpp).2.2 x h z (by simp)
        omega
      · simp at h; rw [h]
    · intro h
      have hmem : ∀ y ∈ x0 :: s, y ∈ l := fun y hy => hp.mem_iff.1 hy
      have h0 := h x0 (hmem x0 (by simp))
      rw [key x0 (hmem x0 (by simp)), needTo_cons, if_pos (Int.le_refl _)] at h0
      have hn := needTo_nonneg x0.dl s
      refine ⟨by omega, fun p x q e => ?_⟩
      have hx := h x (hmem x (by rw [e]; simp))
      rw [key x (hmem x (by rw [e]; simp)), e, needTo_cons, needTo_append, needTo_cons, if_pos (Int.le_refl x.dl)] at hx
      have hsx : x0.dl ≤ x.dl := List.rel_of_pairwise_cons hs (by rw [e]; simp)
      rw [if_pos hsx] at hx
      have hq := needTo_nonneg x.dl q
      have hpx : ∀ y ∈ p, y.dl ≤ x.dl := fun y hy => by
        have := hs.tail
        simp only [List.tail_cons] at this
        rw [e] at this
        exact (List.pairwise_append.1 this).2.2 y hy x (by simp)
      rw [needTo_at _ _ hpx]
      omega
end Go.Proofs.YtjgegnjclmkpeaaDoor
