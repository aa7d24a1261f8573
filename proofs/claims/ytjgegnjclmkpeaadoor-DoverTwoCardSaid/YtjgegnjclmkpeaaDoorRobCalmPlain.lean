/- Plain: where the earliest deadline first meets all charges the robust scheduler sets nobody aside, refuses nobody, and runs just so. No program in sight. -/
import Derived.Test.YtjgegnjclmkpeaaDoorEdfRun
import Derived.Test.YtjgegnjclmkpeaaDoorRobHardPlain
namespace Go.Proofs.YtjgegnjclmkpeaaDoor
namespace Rob
theorem sum_sub {α : Type} (r : List α) (f g : α → Int) : (r.map fun i => f i - g i).sum = (r.map f).sum - (r.map g).sum := by
  induction r with
  | nil => rfl
  | cons a r ih => simp only [List.map_cons, List.sum_cons, ih]; omega
theorem sum_bump {α : Type} (k : α) (f g : α → Int) : ∀ (r : List α), r.Nodup → k ∈ r → (∀ i ∈ r, i ≠ k → g i = f i) → g k = f k + 1 → (r.map g).sum = (r.map f).sum + 1
  | a :: r, hn, hk, h1, h2 => by
    have hn' := List.nodup_cons.1 hn
    simp only [List.map_cons, List.sum_cons]
    rcases List.mem_cons.1 hk with rfl | hk2
    · have : (r.map g) = r.map f := List.map_congr_left fun i hi => h1 i (by simp [hi]) (fun e => hn'.1 (e ▸ hi))
      rw [this, h2]; omega
    · have := sum_bump k f g r hn'.2 hk2 (fun i hi => h1 i (by simp [hi])) h2
      rw [this, h1 a (by simp) (fun e => hn'.1 (e ▸ hk2))]; omega
theorem foldl_same {α β : Type} (f : β → α → β) (b : β) : ∀ (r : List α), (∀ x ∈ r, f b x = b) → r.foldl f b = b
  | [], _ => rfl
  | x :: r, h => by rw [List.foldl_cons, h x (by simp)]; exact foldl_same f b r fun y hy => h y (by simp [hy])

variable {l : List Job} {t : Nat} {s : RS}
/-- What holds at tick t of a calm run. -/
structure Calm (l : List Job) (t : Nat) (s : RS) : Prop where
  lis : s.is.length = l.length
  lran : s.ran.length = l.length
  lfa : s.fa.length = l.length
  is1 : ∀ i, i < l.length → isAt s i = if (jb l i).rel < t then 1 else 0
  kinds : ∀ i, i < l.length → kindAt s i = 0 ∨ kindAt s i = 1 ∨ kindAt s i = 2
  ran : ∀ i, i < l.length → 0 ≤ ranAt s i ∧ ranAt s i ≤ (jb l i).work
  waits : ∀ i, i < l.length → (kindAt s i = 0 ↔ ranAt s i < (jb l i).work)
  fresh : ∀ i, i < l.length → t ≤ (jb l i).rel → ranAt s i = 0
  sh : s.sh = []
  ag : s.ag = []
  tr : s.tr = (edfAt l Job.work t).2
  left : ∀ i, i < l.length → (edfAt l Job.work t).1.getD i 0 = (jb l i).work - ranAt s i
  dem : ∀ d : Nat, ∃ a : Nat, a ≤ t ∧ (∀ i, i < l.length → (jb l i).rel < a → (jb l i).dl ≤ d → kindAt s i ≠ 0) ∧
    ((List.range l.length).map fun i => if (a : Int) ≤ (jb l i).rel ∧ (jb l i).dl ≤ d then ranAt s i else 0).sum = (t : Int) - a
theorem calm_fits (hok : ∀ j ∈ l, j.Ok) (hlen : l.length ≤ 200) (hm : meetsAll l) (h : Calm l t s) (ht : t ≤ 10000) {s1 : RS} (hr : ∀ i, ranAt s1 i = ranAt s i) (hk : ∀ i, kindAt s1 i = kindAt s i) : fits l s1 t = true := by
  have hb : Bd l s1 := ⟨hlen, hok, fun i hi => by rw [hr]; exact h.ran i hi⟩
  rw [fits_iff hb _ (by omega) (by omega)]
  intro i hi ho
  have ho' := opn_iff.1 ho
  rw [hk] at ho'
  have hj := jb_ok hok hi
  obtain ⟨d, hd⟩ : ∃ d : Nat, (jb l i).dl = d := ⟨(jb l i).dl.toNat, by have := hj.rel0; have := hj.rel1; omega⟩
  obtain ⟨a, ha, h1, h2⟩ := h.dem d
  have hra : (a : Int) ≤ (jb l i).rel := by
    rcases Int.lt_or_le (jb l i).rel a with hlt | hle
    · exact absurd ho'.2 (h1 i hi hlt (by omega))
    · exact hle
  have hdem := demand hm a d (by have := hj.rel1; omega)
  have hle : load l s1 (jb l i).dl ≤ ((List.range l.length).map fun j => (if (a : Int) ≤ (jb l j).rel ∧ (jb l j).dl ≤ d then (jb l j).charge else 0) - (if (a : Int) ≤ (jb l j).rel ∧ (jb l j).dl ≤ d then ranAt s j else 0)).sum := by
    unfold load
    refine sum_map_le _ _ _ fun j hj => ?_
    have hjl := List.mem_range.1 hj
    have hjo := jb_ok hok hjl
    have hjr := h.ran j hjl
    have hjw := hjo.work_le
    by_cases hc : opn s1 j 1 = true ∧ (jb l j).dl ≤ (jb l i).dl
    · rw [if_pos hc]
      have hc1 := (opn_iff.1 hc.1).2
      rw [hk] at hc1
      have hrj : (a : Int) ≤ (jb l j).rel := by
        rcases Int.lt_or_le (jb l j).rel a with hlt | hle
        · exact absurd hc1 (h1 j hjl hlt (by omega))
        · exact hle
      rw [if_pos ⟨hrj, by omega⟩, if_pos ⟨hrj, by omega⟩]
      unfold need
      rw [hr]
      omega
    · rw [if_neg hc]
      split <;> omega
  rw [sum_sub] at hle
  omega
theorem late_calm (h : ∀ i, i < l.length → isAt s i ≠ 2) (t : Int) : late l t s = s := by
  unfold late
  refine foldl_same _ _ _ fun i hi => ?_
  have := h i (List.mem_range.1 hi)
  unfold late1
  rw [if_neg]
  intro hc
  simp only [Bool.and_eq_true] at hc
  exact this (opn_iff.1 hc.1).1
theorem again_calm (h : ∀ i, i < l.length → isAt s i ≠ 2) (t : Int) : again l t s = s := by
  unfold again againList
  have : (List.range l.length).filter (fun i => opn s i 2) = [] := by
    rw [List.filter_eq_nil_iff]
    intro i hi hc
    exact h i (List.mem_range.1 hi) (opn_iff.1 hc).1
  rw [this]; rfl
/-- What the jobs are, the first k of those that come at t taken. -/
def marks (l : List Job) (t : Nat) (is : List Int) (k : Nat) : List Int := (List.range k).foldl (fun is i => if (jb l i).rel = (t : Int) then is.set i 1 else is) is
theorem marks_succ (is : List Int) (k : Nat) : marks l t is (k + 1) = if (jb l k).rel = (t : Int) then (marks l t is k).set k 1 else marks l t is k := by unfold marks; rw [foldl_range_succ]
theorem marks_at (is : List Int) (k j : Nat) (hj : j < is.length) : (marks l t is k).length = is.length ∧ (marks l t is k).getD j 0 = if j < k ∧ (jb l j).rel = (t : Int) then 1 else is.getD j 0 := by
  induction k with
  | zero => simp [marks]
  | succ k ih =>
    rw [marks_succ]
    split
    · rename_i hr
      refine ⟨by simp [ih.1], ?_⟩
      rw [getD_set_eq, ih.1]
      by_cases e : k = j
      · subst e; rw [if_pos ⟨rfl, hj⟩, if_pos ⟨by omega, hr⟩]
      · rw [if_neg (fun hh => e hh.1), ih.2]
        have : (j < k ∧ (jb l j).rel = (t : Int)) ↔ (j < k + 1 ∧ (jb l j).rel = (t : Int)) := by omega
        simp only [this]
    · rename_i hr
      refine ⟨ih.1, ?_⟩
      rw [ih.2]
      by_cases e : k = j
      · subst e; rw [if_neg (by omega), if_neg (by intro hh; exact hr hh.2)]
      · have : (j < k ∧ (jb l j).rel = (t : Int)) ↔ (j < k + 1 ∧ (jb l j).rel = (t : Int)) := by omega
        simp only [this]
theorem arrLoop_fits {t : Int} {i n f : Nat} (hf : fits l s t = true) : arrLoop l t i n (f + 1) s = s := by
  unfold arrLoop; rw [if_pos hf]
theorem arrivals_calm (hok : ∀ j ∈ l, j.Ok) (hlen : l.length ≤ 200) (hm : meetsAll l) (h : Calm l t s) (ht : t ≤ 10000) (k : Nat) : (List.range k).foldl (arrive1 l t) s = { s with is := marks l t s.is k } := by
  induction k with
  | zero => rfl
  | succ k ih =>
    rw [foldl_range_succ, ih, marks_succ]
    unfold arrive1
    split
    · exact arrLoop_fits (calm_fits hok hlen hm h ht (s1 := { s with is := (marks l t s.is k).set k 1 }) (fun i => rfl) (fun i => rfl))
    · rfl
theorem calm_start (hok : ∀ j ∈ l, j.Ok) : Calm l 0 (start l) := by
  have rep : ∀ i (a : Int), (List.replicate l.length a).getD i a = a := fun i a => by
    rw [List.getD_eq_getElem?_getD, List.getElem?_replicate]; split <;> rfl
  have rep2 : ∀ i, (List.replicate l.length ((0 : Int), (0 : Int))).getD i (0, 0) = (0, 0) := fun i => by
    rw [List.getD_eq_getElem?_getD, List.getElem?_replicate]; split <;> rfl
  have r0 : ∀ i, ranAt (start l) i = 0 := fun i => rep i 0
  have k0 : ∀ i, kindAt (start l) i = 0 := fun i => by show ((List.replicate l.length ((0 : Int), (0 : Int))).getD i (0, 0)).1 = 0; rw [rep2]
  have z0 : ∀ q : List Nat, (q.map fun _ => (0 : Int)).sum = 0 := fun q => by
    induction q with
    | nil => rfl
    | cons a q ih => rw [List.map_cons, List.sum_cons, ih]; rfl
  refine ⟨by simp [start], by simp [start], by simp [start], fun i hi => ?_, fun i hi => .inl (k0 i), fun i hi => ?_, fun i hi => ?_, fun i hi _ => r0 i, rfl, rfl, rfl, fun i hi => ?_, fun d => ⟨0, Nat.le_refl _, fun i hi hr => ?_, ?_⟩⟩
  · rw [show isAt (start l) i = 0 from rep i 0, if_neg]
    have := (jb_ok hok hi).rel0; omega
  · rw [r0]; have := (jb_ok hok hi).work0; omega
  · rw [r0, k0]; have := (jb_ok hok hi).work0; exact ⟨fun _ => by omega, fun _ => rfl⟩
  · rw [r0]
    show (l.map Job.work).getD i 0 = _
    simp [jb, List.getD_eq_getElem?_getD, List.getElem?_eq_getElem hi]
  · have := (jb_ok hok hi).rel0; omega
  · rw [show ((List.range l.length).map fun i => if ((0 : Nat) : Int) ≤ (jb l i).rel ∧ (jb l i).dl ≤ d then ranAt (start l) i else 0) = (List.range l.length).map fun _ => (0 : Int) from List.map_congr_left fun i _ => by rw [r0]; simp]
    rw [z0]; omega
/-- One tick. -/
theorem calm_tick (hok : ∀ j ∈ l, j.Ok) (hlen : l.length ≤ 200) (hm : meetsAll l) (h : Calm l t s) (ht : t < 10000) : Calm l (t + 1) (tick l s t) := by
  have n2 : ∀ i, i < l.length → isAt s i ≠ 2 := fun i hi => by rw [h.is1 i hi]; split <;> omega
  unfold tick
  rw [late_calm n2, arrivals_calm hok hlen hm h (by omega)]
  obtain ⟨s1, hs1⟩ : ∃ s1 : RS, s1 = { s with is := marks l t s.is l.length } := ⟨_, rfl⟩
  rw [← hs1]
  have hr1 : ∀ i, ranAt s1 i = ranAt s i := fun i => by rw [hs1]; rfl
  have hk1 : ∀ i, kindAt s1 i = kindAt s i := fun i => by rw [hs1]; rfl
  have hi1 : ∀ i, i < l.length → isAt s1 i = if (jb l i).rel < (t : Int) + 1 then 1 else 0 := fun i hi => by
    have h1 := (marks_at (l := l) (t := t) s.is l.length i (by rw [h.lis]; exact hi)).2
    have h2 : isAt s1 i = (marks l t s.is l.length).getD i 0 := by rw [hs1]; rfl
    have h3 := h.is1 i hi
    have h4 : isAt s i = s.is.getD i 0 := rfl
    rw [h2, h1, ← h4, h3]
    split
    · rw [if_pos (by omega)]
    · split
      · rw [if_pos (by omega)]
      · rw [if_neg (by omega)]
  have hl1 : s1.is.length = l.length := by
    rw [hs1]
    rcases Nat.eq_zero_or_pos l.length with h0 | h0
    · show (marks l t s.is l.length).length = _
      rw [h0]; simp [marks, h.lis, h0]
    · exact (marks_at (l := l) (t := t) s.is l.length 0 (by rw [h.lis]; exact h0)).1.trans h.lis
  have hopn : ∀ i, i < l.length → opn s1 i 1 = pickP l (edfAt l Job.work t).1 t i := fun i hi => by
    have h1 := hi1 i hi
    have h2 := h.waits i hi
    have h3 := h.left i hi
    rw [Bool.eq_iff_iff, opn_iff, hk1, h1]
    simp only [pickP, Bool.and_eq_true, decide_eq_true_eq, h3]
    constructor
    · rintro ⟨a, b⟩
      have := h2.1 b
      refine ⟨?_, by omega⟩
      split at a
      · omega
      · cases a
    · rintro ⟨a, b⟩
      exact ⟨by rw [if_pos (by omega)], h2.2 (by omega)⟩
  obtain ⟨p1, p2, p3, p4⟩ := head_spec l s1
  have z0 : ∀ q : List Nat, (q.map fun _ => (0 : Int)).sum = 0 := fun q => by
    induction q with
    | nil => rfl
    | cons a q ih => rw [List.map_cons, List.sum_cons, ih]; rfl
  unfold runTick
  have hE := einv_at l Job.work t
  cases hp : pick l (edfAt l Job.work t).1 t with
  | none =>
    have hn := pick_none hp
    have hhead : head l s1 = -1 := by
      rcases Int.lt_or_le (head l s1) 0 with hh | hh
      · omega
      · have h1 := (p3 hh).1
        have h2 := hopn (head l s1).toNat (by omega)
        rw [h1, hn _ (by omega)] at h2
        cases h2
    have hno : ∀ i, i < l.length → (jb l i).rel < (t : Int) + 1 → kindAt s i ≠ 0 := fun i hi hr hk => by
      have h1 := p4 (by omega) i hi
      have h2 : opn s1 i 1 = true := opn_iff.2 ⟨by rw [hi1 i hi, if_pos hr], by rw [hk1]; exact hk⟩
      rw [h1] at h2; cases h2
    have hes : edfAt l Job.work (t + 1) = ((edfAt l Job.work t).1, (edfAt l Job.work t).2 ++ [-1]) := by
      rw [edfAt_succ]; unfold edfStep; rw [hp]
    simp only [hhead, if_true]
    refine ⟨hl1, by rw [← h.lran, hs1], by rw [← h.lfa, hs1], fun i hi => ?_, fun i hi => ?_, fun i hi => ?_, fun i hi => ?_, fun i hi hr => ?_, by rw [hs1]; exact h.sh, by rw [hs1]; exact h.ag, ?_, fun i hi => ?_, fun d => ⟨t + 1, Nat.le_refl _, fun i hi hr _ => ?_, ?_⟩⟩
    · show isAt s1 i = _
      rw [hi1 i hi]; simp only [Int.natCast_add, Int.cast_ofNat_Int]
    · have := h.kinds i hi; rw [← hk1 i] at this; exact this
    · have := h.ran i hi; rw [← hr1 i] at this; exact this
    · have := h.waits i hi; rw [← hk1 i, ← hr1 i] at this; exact this
    · have := h.fresh i hi (by omega); rw [← hr1 i] at this; exact this
    · rw [hes, hs1]; show s.tr ++ [-1] = _; rw [h.tr]
    · rw [hes]; have := h.left i hi; rw [← hr1 i] at this; exact this
    · have := hno i hi (by omega); rw [← hk1 i] at this; exact this
    · rw [show ((List.range l.length).map fun i => if ((t + 1 : Nat) : Int) ≤ (jb l i).rel ∧ (jb l i).dl ≤ d then ranAt { s1 with tr := s1.tr ++ [-1] } i else 0) = (List.range l.length).map fun _ => (0 : Int) from List.map_congr_left fun i hi => by
        have hi' := List.mem_range.1 hi
        split
        · rename_i hc
          show ranAt s1 i = 0
          rw [hr1]; exact h.fresh i hi' (by omega)
        · rfl]
      rw [z0]; omega
  | some k =>
    obtain ⟨hk, hpk, hmin⟩ := pick_some hp
    have hok1 := hopn k hk
    rw [hpk] at hok1
    have hkk := (opn_iff.1 hok1).2
    rw [hk1] at hkk
    have hrelk : (jb l k).rel ≤ t := by
      have h1 := (opn_iff.1 hok1).1
      rw [hi1 k hk] at h1
      split at h1
      · omega
      · cases h1
    have hhead : head l s1 = (k : Int) := by
      rcases Int.lt_or_le (head l s1) 0 with hh | hh
      · have := p4 hh k hk; rw [hok1] at this; cases this
      · obtain ⟨q1, q2⟩ := p3 hh
        have q3 := q2 k hk hok1
        have q4 := hmin (head l s1).toNat (by omega) (by rw [← hopn _ (by omega)]; exact q1)
        omega
    have hes : edfAt l Job.work (t + 1) = ((edfAt l Job.work t).1.set k ((edfAt l Job.work t).1.getD k 0 - 1), (edfAt l Job.work t).2 ++ [(k : Int)]) := by
      rw [edfAt_succ]; unfold edfStep; rw [hp]
    have hneg : ¬ ((k : Int) = -1) := by omega
    simp only [hhead, if_neg hneg, Int.toNat_natCast]
    have hlr : k < s1.ran.length := by rw [hs1]; show k < s.ran.length; rw [h.lran]; exact hk
    have hlf : s1.fa.length = l.length := by rw [hs1]; exact h.lfa
    obtain ⟨s3, hs3⟩ : ∃ s3 : RS, s3 = { s1 with tr := s1.tr ++ [(k : Int)], ran := s1.ran.set k (ranAt s1 k + 1) } := ⟨_, rfl⟩
    have r3 : ∀ i, ranAt s3 i = if i = k then ranAt s k + 1 else ranAt s i := fun i => by
      rw [hs3]
      show (s1.ran.set k (ranAt s1 k + 1)).getD i 0 = _
      rw [getD_set_eq]
      by_cases e : i = k
      · subst e; rw [if_pos ⟨rfl, hlr⟩, if_pos rfl, hr1]
      · rw [if_neg (fun hh => e hh.1.symm), if_neg e]; exact hr1 i
    have k3 : ∀ i, kindAt s3 i = kindAt s i := fun i => by rw [hs3]; exact hk1 i
    have hz : ∃ z : RS, runAt l t k { s1 with tr := s1.tr ++ [(k : Int)] } = z ∧ z.ran = s3.ran ∧ z.is = s1.is ∧ z.tr = s1.tr ++ [(k : Int)] ∧ z.sh = [] ∧ z.ag = [] ∧ z.fa.length = l.length ∧ (∀ i, i ≠ k → kindAt z i = kindAt s i) ∧
        ((kindAt z k = 0 ∧ ranAt s k + 1 < (jb l k).work) ∨ ((kindAt z k = 1 ∨ kindAt z k = 2) ∧ ¬ ranAt s k + 1 < (jb l k).work)) := by
      have hsay : ∀ kd : Int, (say s3 k kd (t + 1)).ran = s3.ran ∧ (say s3 k kd (t + 1)).is = s1.is ∧ (say s3 k kd (t + 1)).tr = s1.tr ++ [(k : Int)] ∧ (say s3 k kd (t + 1)).sh = [] ∧ (say s3 k kd (t + 1)).ag = [] ∧ (say s3 k kd (t + 1)).fa.length = l.length ∧ (∀ i, i ≠ k → kindAt (say s3 k kd (t + 1)) i = kindAt s i) ∧ kindAt (say s3 k kd (t + 1)) k = kd := fun kd => by
        have hl3 : k < s3.fa.length := by rw [hs3]; show k < s1.fa.length; omega
        refine ⟨rfl, by rw [hs3]; rfl, by rw [hs3]; rfl, by rw [hs3, hs1]; exact h.sh, by rw [hs3, hs1]; exact h.ag, by simp [say, hs3, hlf], fun i hi => ?_, ?_⟩
        · rw [kindAt_say _ _ _ _ _ hl3, if_neg hi]; exact k3 i
        · rw [kindAt_say _ _ _ _ _ hl3, if_pos rfl]
      have hag : ∀ kd : Int, again l t (say s3 k kd (t + 1)) = say s3 k kd (t + 1) := fun kd => again_calm (fun i hi => by
        have : isAt (say s3 k kd (t + 1)) i = isAt s1 i := by show (say s3 k kd (t + 1)).is.getD i 0 = _; rw [(hsay kd).2.1]; rfl
        rw [this, hi1 i hi]; split <;> omega) t
      have hself : ranAt { s1 with tr := s1.tr ++ [(k : Int)], ran := s1.ran.set k (ranAt s1 k + 1) } k = ranAt s k + 1 := by rw [← hs3, r3, if_pos rfl]
      have hrun : runAt l t k { s1 with tr := s1.tr ++ [(k : Int)] } = if ranAt s k + 1 < (jb l k).work then s3 else if !(jb l k).runs then say s3 k 2 (t + 1) else if (jb l k).act < (jb l k).bud then again l t (say s3 k 1 (t + 1)) else say s3 k 1 (t + 1) := by
        rw [hs3]
        unfold runAt
        simp only [show ∀ q, ranAt { s1 with tr := s1.tr ++ [(k : Int)] } q = ranAt s1 q from fun _ => rfl, hself]
      refine ⟨_, rfl, ?_⟩
      rw [hrun]
      by_cases h1 : ranAt s k + 1 < (jb l k).work
      · rw [if_pos h1]
        exact ⟨rfl, by rw [hs3], by rw [hs3], by rw [hs3, hs1]; exact h.sh, by rw [hs3, hs1]; exact h.ag, by rw [hs3]; exact hlf, fun i _ => k3 i, .inl ⟨by rw [k3]; exact hkk, h1⟩⟩
      · rw [if_neg h1]
        split
        · obtain ⟨a1, a2, a3, a4, a5, a6, a7, a8⟩ := hsay 2
          exact ⟨a1, a2, a3, a4, a5, a6, a7, .inr ⟨.inr a8, h1⟩⟩
        · split
          · rw [hag]
            obtain ⟨a1, a2, a3, a4, a5, a6, a7, a8⟩ := hsay 1
            exact ⟨a1, a2, a3, a4, a5, a6, a7, .inr ⟨.inl a8, h1⟩⟩
          · obtain ⟨a1, a2, a3, a4, a5, a6, a7, a8⟩ := hsay 1
            exact ⟨a1, a2, a3, a4, a5, a6, a7, .inr ⟨.inl a8, h1⟩⟩
    obtain ⟨z, hzr, b1, b2, b3, b4, b5, b6, b7, b8⟩ := hz
    rw [hzr]
    have rz : ∀ i, ranAt z i = if i = k then ranAt s k + 1 else ranAt s i := fun i => by
      rw [← r3]; unfold ranAt; rw [b1]
    have iz : ∀ i, isAt z i = isAt s1 i := fun i => by unfold isAt; rw [b2]
    have hwk := (h.waits k hk).1 hkk
    refine ⟨by rw [b2]; exact hl1, by rw [b1, hs3]; simp [hs1, h.lran], b6, fun i hi => ?_, fun i hi => ?_, fun i hi => ?_, fun i hi => ?_, fun i hi hr => ?_, b4, b5, ?_, fun i hi => ?_, fun d => ?_⟩
    · rw [iz, hi1 i hi]; simp only [Int.natCast_add, Int.cast_ofNat_Int]
    · by_cases e : i = k
      · subst e
        rcases b8 with h1 | h1
        · exact .inl h1.1
        · exact .inr h1.1
      · rw [b7 i e]; exact h.kinds i hi
    · rw [rz]
      have := h.ran i hi
      split
      · rename_i e; subst e; omega
      · exact this
    · rw [rz]
      by_cases e : i = k
      · subst e
        rw [if_pos rfl]
        rcases b8 with h1 | h1
        · exact ⟨fun _ => h1.2, fun _ => h1.1⟩
        · exact ⟨fun h2 => by rcases h1.1 with h3 | h3 <;> omega, fun h2 => absurd h2 h1.2⟩
      · rw [if_neg e, b7 i e]; exact h.waits i hi
    · rw [rz]
      split
      · rename_i e; subst e; omega
      · exact h.fresh i hi (by omega)
    · rw [b3, hes, hs1]; show s.tr ++ _ = _; rw [h.tr]
    · rw [hes, rz]
      show ((edfAt l Job.work t).1.set k ((edfAt l Job.work t).1.getD k 0 - 1)).getD i 0 = _
      rw [getD_set_eq, hE.len]
      have := h.left i hi
      by_cases e : i = k
      · subst e; rw [if_pos ⟨rfl, hk⟩, if_pos rfl]; omega
      · rw [if_neg (fun hh => e hh.1.symm), if_neg e]; exact this
    · by_cases hd : (jb l k).dl ≤ d
      · obtain ⟨a, ha, c1, c2⟩ := h.dem d
        refine ⟨a, by omega, fun i hi hr hdl => ?_, ?_⟩
        · have := c1 i hi hr hdl
          by_cases e : i = k
          · subst e; exact absurd hkk this
          · rw [b7 i e]; exact this
        · have hra : (a : Int) ≤ (jb l k).rel := by
            rcases Int.lt_or_le (jb l k).rel a with hlt | hle
            · exact absurd hkk (c1 k hk hlt hd)
            · exact hle
          rw [sum_bump k (fun i => if (a : Int) ≤ (jb l i).rel ∧ (jb l i).dl ≤ d then ranAt s i else 0) _ (List.range l.length) List.nodup_range (List.mem_range.2 hk) (fun i _ hi => by rw [rz, if_neg hi]) (by rw [if_pos ⟨hra, hd⟩, if_pos ⟨hra, hd⟩, rz, if_pos rfl]), c2]
          omega
      · refine ⟨t + 1, Nat.le_refl _, fun i hi hr hdl hkz => ?_, ?_⟩
        · by_cases e : i = k
          · subst e; omega
          · rw [b7 i e] at hkz
            have h2 : opn s1 i 1 = true := opn_iff.2 ⟨by rw [hi1 i hi, if_pos (by omega)], by rw [hk1]; exact hkz⟩
            have := hmin i hi (by rw [← hopn i hi]; exact h2)
            omega
        · rw [show ((List.range l.length).map fun i => if ((t + 1 : Nat) : Int) ≤ (jb l i).rel ∧ (jb l i).dl ≤ d then ranAt z i else 0) = (List.range l.length).map fun _ => (0 : Int) from List.map_congr_left fun i hi => by
            have hi' := List.mem_range.1 hi
            split
            · rename_i hc
              have hik : i ≠ k := fun e => by subst e; omega
              rw [rz, if_neg hik]; exact h.fresh i hi' (by omega)
            · rfl]
          rw [z0]; omega
/-- THE PLAIN LAW. -/
theorem calm_law (hok : ∀ j ∈ l, j.Ok) (hlen : l.length ≤ 200) (hm : meetsAll l) :
    (run l).sh = [] ∧ (run l).ag = [] ∧ (run l).tr = (edfAt l Job.work (endOf l).toNat).2 ∧ (run l).fa.length = l.length ∧ ∀ i, i < l.length → ((run l).fa.getD i (0, 0)).1 = 1 ∨ ((run l).fa.getD i (0, 0)).1 = 2 := by
  have hend1 : endOf l ≤ 10000 := endOf_le (by omega) fun j hj => (hok j hj).dl1
  have hc := foldl_range_inv (tick l) (endOf l).toNat (fun t s => Calm l t s) (start l) (calm_start hok) (fun t s ht h => calm_tick hok hlen hm h (by omega))
  obtain ⟨-, -, hlaw⟩ := hard_law hok hlen
  unfold run at hlaw ⊢
  generalize (List.range (endOf l).toNat).foldl (tick l) (start l) = s at hc hlaw ⊢
  have hlast : (List.range l.length).foldl (last1 (endOf l)) s = s := foldl_same _ _ _ fun i hi => by
    have h1 := hc.is1 i (List.mem_range.1 hi)
    unfold last1
    rw [if_neg]
    intro ho
    rw [(opn_iff.1 ho).1] at h1
    split at h1 <;> omega
  rw [hlast] at hlaw ⊢
  refine ⟨hc.sh, hc.ag, hc.tr, hc.lfa, fun i hi => ?_⟩
  have h1 := hc.kinds i hi
  have h2 := hlaw i hi
  have h3 : kindAt s i = (s.fa.getD i (0, 0)).1 := rfl
  rw [h3] at h1
  rcases h2 with h2 | h2 | h2 | h2
  · exact .inl h2.1
  · exact .inr h2.1
  · omega
  · omega
end Rob
end Go.Proofs.YtjgegnjclmkpeaaDoor
