/- Plain: jobs as Lean data, and what package job says of them. No program in sight. -/
namespace Go.Proofs.YtjgegnjclmkpeaaDoor

/-- A job. -/
structure Job where
  name : ByteArray
  rel : Int
  dl : Int
  bud : Int
  act : Int
  val : Int
  cln : Int
  hard : Bool
instance : Inhabited Job := ⟨⟨.empty, 0, 0, 0, 0, 0, 0, false⟩⟩

namespace Job
/-- The numbers of a job that may be. -/
def numsOk (j : Job) : Bool :=
  (decide (0 ≤ j.rel) && decide (j.rel ≤ 10000) && decide (j.rel < j.dl) && decide (j.dl ≤ 10000)) &&
  ((decide (1 ≤ j.bud) && decide (j.bud ≤ 1000)) && (decide (1 ≤ j.act) && decide (j.act ≤ 1000)) && (decide (0 ≤ j.cln) && decide (j.cln ≤ 100))) &&
  (decide (0 ≤ j.val) && decide (j.val ≤ 1000000))
def good (gn : ByteArray → Bool) (j : Job) : Bool := gn j.name && j.numsOk
def runs (j : Job) : Bool := decide (j.act ≤ j.bud)
/-- Of a job that may be. -/
def charge (j : Job) : Int := j.bud + j.cln
def work (j : Job) : Int := if j.act ≤ j.bud then j.act else j.bud + j.cln
/-- The bounds, as propositions. -/
structure Ok (j : Job) : Prop where
  rel0 : 0 ≤ j.rel
  rel1 : j.rel < j.dl
  dl1 : j.dl ≤ 10000
  bud0 : 1 ≤ j.bud
  bud1 : j.bud ≤ 1000
  act0 : 1 ≤ j.act
  act1 : j.act ≤ 1000
  cln0 : 0 ≤ j.cln
  cln1 : j.cln ≤ 100
  val0 : 0 ≤ j.val
  val1 : j.val ≤ 1000000
theorem ok_of_nums {j : Job} (h : j.numsOk = true) : j.Ok := by
  simp only [numsOk, Bool.and_eq_true, decide_eq_true_eq] at h
  obtain ⟨⟨⟨⟨⟨a, b⟩, c⟩, d⟩, ⟨⟨e, f⟩, ⟨g, i⟩⟩, ⟨k, l⟩⟩, ⟨m, n⟩⟩ := h
  exact ⟨a, c, d, e, f, g, i, k, l, m, n⟩
theorem ok_of_good {gn : ByteArray → Bool} {j : Job} (h : j.good gn = true) : j.Ok := by
  simp only [good, Bool.and_eq_true] at h
  exact ok_of_nums h.2
theorem Ok.charge0 {j : Job} (h : j.Ok) : 1 ≤ j.charge := by have := h.bud0; have := h.cln0; unfold charge; omega
theorem Ok.charge1 {j : Job} (h : j.Ok) : j.charge ≤ 1100 := by have := h.bud1; have := h.cln1; unfold charge; omega
theorem Ok.work0 {j : Job} (h : j.Ok) : 1 ≤ j.work := by
  have := h.bud0; have := h.cln0; have := h.act0
  unfold work; split <;> omega
theorem Ok.work_le {j : Job} (h : j.Ok) : j.work ≤ j.charge := by
  have := h.bud0; have := h.cln0; have := h.act0
  unfold work charge; split <;> omega
end Job

/-- All jobs may be: package job's All. -/
def allGood (gn : ByteArray → Bool) (l : List Job) : Bool := decide (l.length ≤ 200) && l.all (Job.good gn)
theorem allGood_ok {gn : ByteArray → Bool} {l : List Job} (h : allGood gn l = true) : ∀ j ∈ l, j.Ok := by
  simp only [allGood, Bool.and_eq_true, List.all_eq_true] at h
  exact fun j hj => Job.ok_of_good (h.2 j hj)
theorem allGood_len {gn : ByteArray → Bool} {l : List Job} (h : allGood gn l = true) : l.length ≤ 200 := by
  simp only [allGood, Bool.and_eq_true, decide_eq_true_eq] at h
  exact h.1
/-- The greatest deadline: package job's End. -/
def endOf (l : List Job) : Int := l.foldl (fun n j => max n j.dl) 0
theorem endOf_fold_ge (l : List Job) (a : Int) : a ≤ l.foldl (fun n j => max n j.dl) a ∧ ∀ j ∈ l, j.dl ≤ l.foldl (fun n j => max n j.dl) a := by
  induction l generalizing a with
  | nil => simp
  | cons x l ih =>
    have h := ih (max a x.dl)
    simp only [List.foldl_cons, List.mem_cons, forall_eq_or_imp]
    refine ⟨by omega, by omega, h.2⟩
theorem endOf_ge {l : List Job} {j : Job} (h : j ∈ l) : j.dl ≤ endOf l := (endOf_fold_ge l 0).2 j h
theorem endOf_nonneg (l : List Job) : 0 ≤ endOf l := (endOf_fold_ge l 0).1
theorem endOf_fold_le (l : List Job) (a b : Int) (ha : a ≤ b) (h : ∀ j ∈ l, j.dl ≤ b) : l.foldl (fun n j => max n j.dl) a ≤ b := by
  induction l generalizing a with
  | nil => simpa using ha
  | cons x l ih =>
    simp only [List.foldl_cons]
    exact ih _ (by have := h x (by simp); omega) (fun j hj => h j (by simp [hj]))
theorem endOf_le {l : List Job} {b : Int} (hb : 0 ≤ b) (h : ∀ j ∈ l, j.dl ≤ b) : endOf l ≤ b := endOf_fold_le l 0 b hb h

/-! ### Reading lists at a place -/
theorem getD_set_eq {α : Type} (l : List α) (i j : Nat) (a d : α) : (l.set i a).getD j d = if i = j ∧ j < l.length then a else l.getD j d := by
  simp only [List.getD_eq_getElem?_getD, List.getElem?_set]
  by_cases h : i = j
  · subst h
    by_cases h2 : i < l.length
    · simp [h2]
    · simp [h2]
  · simp [h]
theorem getD_append_left {α : Type} (l m : List α) (j : Nat) (d : α) (h : j < l.length) : (l ++ m).getD j d = l.getD j d := by
  simp [List.getD_eq_getElem?_getD, List.getElem?_append_left h]
theorem getD_mem {α : Type} {l : List α} {j : Nat} {d : α} (h : j < l.length) : l.getD j d ∈ l := by
  simp [List.getD_eq_getElem?_getD, List.getElem?_eq_getElem h]

/-! ### Folds over places -/
theorem foldl_range_succ {β : Type} (f : β → Nat → β) (b : β) (n : Nat) : (List.range (n + 1)).foldl f b = f ((List.range n).foldl f b) n := by
  rw [List.range_succ, List.foldl_append]; rfl
/-- What holds at first and is kept by each step holds at the end. -/
theorem foldl_range_inv {β : Type} (f : β → Nat → β) (n : Nat) (I : Nat → β → Prop) (b : β) (h0 : I 0 b) (hs : ∀ k b, k < n → I k b → I (k + 1) (f b k)) : I n ((List.range n).foldl f b) := by
  have : ∀ m, m ≤ n → I m ((List.range m).foldl f b) := by
    intro m
    induction m with
    | zero => intro _; simpa using h0
    | succ m ih => intro hm; rw [foldl_range_succ]; exact hs m _ (by omega) (ih (by omega))
  exact this n (Nat.le_refl n)
end Go.Proofs.YtjgegnjclmkpeaaDoor
