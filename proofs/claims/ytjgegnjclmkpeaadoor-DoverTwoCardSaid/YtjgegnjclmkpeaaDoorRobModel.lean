/- Plain: the robust scheduler as functions on lists, after the Go text statement for statement. No program in sight. -/
import Derived.Test.YtjgegnjclmkpeaaDoorEdf
namespace Go.Proofs.YtjgegnjclmkpeaaDoor

/-! ### Insertion sort, from the right end: what a stable sort of few elements does -/
section
variable {α : Type} (lt : α → α → Bool)
/-- x is let in from the right end; the list is the sorted part, turned round. -/
def insR (x : α) : List α → List α
  | [] => [x]
  | y :: ys => if lt x y then y :: insR x ys else x :: y :: ys
def isort (l : List α) : List α := (l.foldl (fun r x => insR lt x r) []).reverse
theorem insR_perm (x : α) (r : List α) : (insR lt x r).Perm (x :: r) := by
  induction r with
  | nil => exact List.Perm.refl _
  | cons y ys ih =>
    unfold insR
    split
    · exact (ih.cons y).trans (List.Perm.swap x y ys)
    · exact List.Perm.refl _
theorem isort_fold_perm (l r : List α) : (l.foldl (fun r x => insR lt x r) r).Perm (l ++ r) := by
  induction l generalizing r with
  | nil => exact List.Perm.refl _
  | cons x l ih =>
    simp only [List.foldl_cons]
    refine (ih _).trans ?_
    refine ((insR_perm lt x r).append_left l).trans ?_
    exact List.perm_middle
theorem isort_perm (l : List α) : (isort lt l).Perm l := by
  unfold isort
  refine (List.reverse_perm _).trans ?_
  have := isort_fold_perm lt l []
  rwa [List.append_nil] at this
end

/-- The runner's lists: what a job is (0 unknown, 1 taken, 2 set aside), how often it ran, the trace, the fates (kind, tick), who was set aside, who was taken again. -/
structure RS where
  is : List Int
  ran : List Int
  tr : List Int
  fa : List (Int × Int)
  sh : List Int
  ag : List Int

namespace Rob
section
variable (l : List Job)
/-- The job at a place. -/
def jb (i : Nat) : Job := l.getD i default
theorem jb_mem {l : List Job} {i : Nat} (h : i < l.length) : jb l i ∈ l := getD_mem h
theorem jb_ok {l : List Job} (h : ∀ j ∈ l, j.Ok) {i : Nat} (hi : i < l.length) : (jb l i).Ok := h _ (jb_mem hi)
theorem jb_get {l : List Job} {i : Nat} (h : i < l.length) : jb l i = l[i] := by simp [jb, List.getD_eq_getElem?_getD, List.getElem?_eq_getElem h]
def isAt (s : RS) (i : Nat) : Int := s.is.getD i 0
def ranAt (s : RS) (i : Nat) : Int := s.ran.getD i 0
def kindAt (s : RS) (i : Nat) : Int := (s.fa.getD i (0, 0)).1
def opn (s : RS) (i : Nat) (v : Int) : Bool := isAt s i == v && kindAt s i == 0
def need (s : RS) (i : Nat) : Int := (jb l i).charge - ranAt s i
def lefts (s : RS) : List Left := ((List.range l.length).filter fun i => opn s i 1).map fun i => ⟨(jb l i).dl, need l s i⟩
def fits (s : RS) (now : Int) : Bool := fitsB now (lefts l s)
def say (s : RS) (i : Nat) (kind tick : Int) : RS := { s with fa := s.fa.set i (kind, tick) }
def late1 (t : Int) (s : RS) (i : Nat) : RS := if opn s i 2 && decide ((jb l i).dl - t < need l s i) then say s i 3 t else s
def late (t : Int) (s : RS) : RS := (List.range l.length).foldl (late1 l t) s
def least1 (s : RS) (best : Int) (i : Nat) : Int :=
  if !opn s i 1 || (jb l i).hard || decide ((jb l i).bud ≤ ranAt s i) then best
  else if decide (best < 0) || decide ((jb l i).val ≤ (jb l best.toNat).val) then i else best
def least (s : RS) : Int := (List.range l.length).foldl (least1 l s) (-1)
/-- Those set aside from place n on are taken again. -/
def restore (n : Nat) (s : RS) : RS := { s with is := (s.sh.drop n).foldl (fun is x => is.set x.toNat 1) s.is, sh := s.sh.take n }
def arrLoop (t : Int) (i n : Nat) : Nat → RS → RS
  | 0, s => s
  | f + 1, s =>
    if fits l s t then s
    else if decide (least l s < 0) then say (restore n s) i 4 t
    else arrLoop t i n f { s with is := s.is.set (least l s).toNat 2, sh := s.sh ++ [least l s] }
def arrive (t : Int) (s : RS) (i : Nat) : RS := arrLoop l t i s.sh.length (l.length + 1) { s with is := s.is.set i 1 }
def arrive1 (t : Int) (s : RS) (i : Nat) : RS := if (jb l i).rel = t then arrive l t s i else s
def again1 (t : Int) (s : RS) (i : Nat) : RS :=
  if fits l { s with is := s.is.set i 1 } (t + 1) then { s with is := s.is.set i 1, ag := s.ag ++ [(i : Int)] }
  else { s with is := (s.is.set i 1).set i 2 }
def againList (s : RS) : List Nat := isort (fun a b => decide ((jb l b).val < (jb l a).val)) ((List.range l.length).filter fun i => opn s i 2)
def again (t : Int) (s : RS) : RS := (againList l s).foldl (again1 l t) s
def head1 (s : RS) (best : Int) (i : Nat) : Int :=
  if opn s i 1 && (decide (best < 0) || decide ((jb l i).dl < (jb l best.toNat).dl)) then i else best
def head (s : RS) : Int := (List.range l.length).foldl (head1 l s) (-1)
/-- The job runs one tick; what is said of it at its end. -/
def runAt (t : Int) (i : Nat) (s : RS) : RS :=
  let s1 : RS := { s with ran := s.ran.set i (ranAt s i + 1) }
  if ranAt s1 i < (jb l i).work then s1
  else if !(jb l i).runs then say s1 i 2 (t + 1)
  else if (jb l i).act < (jb l i).bud then again l t (say s1 i 1 (t + 1)) else say s1 i 1 (t + 1)
def runTick (t : Int) (s : RS) : RS :=
  let s1 : RS := { s with tr := s.tr ++ [head l s] }
  if head l s = -1 then s1 else runAt l t (head l s).toNat s1
def tick (s : RS) (t : Nat) : RS := runTick l t ((List.range l.length).foldl (arrive1 l t) (late l t s))
def start : RS := ⟨List.replicate l.length 0, List.replicate l.length 0, [], List.replicate l.length (0, 0), [], []⟩
def last1 (t : Int) (s : RS) (i : Nat) : RS := if opn s i 2 then say s i 3 t else s
def run : RS := (List.range l.length).foldl (last1 (endOf l)) ((List.range (endOf l).toNat).foldl (tick l) (start l))
end
end Rob

/-! ### Package trace -/
/-- How often a job ran. -/
def ranIn (t : List Int) (i : Int) : Int := (t.count i : Int)
/-- DoneAt's loop. -/
def doneGo (i : Int) : Int → Int → List Int → Int × Bool
  | _, _, [] => (0, false)
  | left, tick, k :: t => if (if k = i then left - 1 else left) = 0 then (tick + 1, true) else doneGo i (if k = i then left - 1 else left) (tick + 1) t
def doneAt (l : List Job) (t : List Int) (i : Nat) : Int × Bool := doneGo i (l.getD i default).work 0 t
/-- Good's loop. -/
def traceGo (l : List Job) : Int → List Int → List Int → Bool
  | _, _, [] => true
  | tick, ran, i :: t =>
    if i = -1 then traceGo l (tick + 1) ran t
    else if i < 0 ∨ (l.length : Int) ≤ i ∨ tick < (l.getD i.toNat default).rel ∨ (l.getD i.toNat default).dl ≤ tick ∨ (l.getD i.toNat default).work ≤ ran.getD i.toNat 0 then false
    else traceGo l (tick + 1) (ran.set i.toNat (ran.getD i.toNat 0 + 1)) t
/-- trace.Good of jobs that may be. -/
def traceOk (l : List Job) (t : List Int) : Bool := decide (t.length ≤ 10000) && traceGo l 0 (List.replicate l.length 0) t
end Go.Proofs.YtjgegnjclmkpeaaDoor
