/- Plain: the Dover scheduler as functions on lists, after the Go text statement for statement; what its trace and its fates say. No program in sight. -/
import Derived.Test.YtjgegnjclmkpeaaDoorEdfRun
import Derived.Test.YtjgegnjclmkpeaaDoorRobHardPlain
namespace Go.Proofs.YtjgegnjclmkpeaaDoor
/-- The runner's lists: how often each ran, the trace, the fates (kind, tick), whose alarm rang. -/
structure DS where
  ran : List Int
  tr : List Int
  fa : List (Int × Int)
  al : List Int
namespace Dov
open Rob (jb jb_mem jb_ok byDl)
/-- surd.Above, of a rule that may be. -/
def above (v w p q : Int) : Bool := decide ((w = 0 ∧ 0 < v) ∨ (0 < w ∧ w < v ∧ w * w * p < (v - w) * (v - w) * q))
section
variable (l : List Job)
def ranAt (s : DS) (i : Nat) : Int := s.ran.getD i 0
def kindAt (s : DS) (i : Nat) : Int := (s.fa.getD i (0, 0)).1
def live (s : DS) (t : Int) (i : Nat) : Bool := decide ((jb l i).rel ≤ t) && kindAt s i == 0
def abo (s : DS) (i : Nat) : Bool := !(jb l i).runs && decide ((jb l i).bud ≤ ranAt s i)
def lives (s : DS) (t : Int) : List Nat := (byDl l).filter (live l s t)
def say (s : DS) (i : Nat) (kind tick : Int) : DS := { s with fa := s.fa.set i (kind, tick) }
def exp1 (t : Int) (s : DS) (i : Nat) : DS := if live l s t i && decide ((jb l i).dl ≤ t) then say s i 5 t else s
def expire (t : Int) (s : DS) : DS := (List.range l.length).foldl (exp1 l t) s
/-- The first alarm: whose, those ahead of it, their values. -/
def ringGo (s : DS) (t : Int) : List Nat → List Nat → Int → Option (Nat × List Nat × Int)
  | [], _, _ => none
  | i :: r, ah, v =>
    if abo l s i then ringGo s t r ah v
    else if !ah.isEmpty && decide ((jb l i).dl - t ≤ (jb l i).charge - ranAt s i) then some (i, ah, v)
    else ringGo s t r (ah ++ [i]) (v + (jb l i).val)
def shedAll (t : Int) (s : DS) (ah : List Nat) : DS := ah.foldl (fun s k => say s k 3 t) s
def dec (p q t : Int) (s : DS) (i : Nat) (ah : List Nat) (v : Int) : DS :=
  if above (jb l i).val (min v 1000000000) p q then shedAll t { s with al := s.al ++ [(i : Int)] } ah else say { s with al := s.al ++ [(i : Int)] } i 3 t
def ring (p q t : Int) (s : DS) : Option DS := (ringGo l s t (lives l s t) [] 0).map fun x => dec l p q t s x.1 x.2.1 x.2.2
def rings (p q t : Int) : Nat → DS → DS
  | 0, s => s
  | f + 1, s => match ring l p q t s with
    | none => s
    | some s' => rings p q t f s'
/-- The job runs one tick; what is said of it at its end. -/
def runAt (t : Int) (i : Nat) (s : DS) : DS :=
  let s1 : DS := { s with tr := s.tr ++ [(i : Int)], ran := s.ran.set i (ranAt s i + 1) }
  if ranAt s i + 1 < (jb l i).work then s1 else say s1 i (if (jb l i).runs then 1 else 2) (t + 1)
def runTick (t : Int) (s : DS) : DS :=
  match lives l s t with
  | [] => { s with tr := s.tr ++ [-1] }
  | i :: _ => runAt l t i s
def tick (p q : Int) (s : DS) (t : Nat) : DS := runTick l t (rings l p q t (l.length + 1) (expire l t s))
def start : DS := ⟨List.replicate l.length 0, [], List.replicate l.length (0, 0), []⟩
def last1 (t : Int) (s : DS) (i : Nat) : DS := if kindAt s i = 0 then say s i 5 t else s
def run (p q : Int) : DS := (List.range l.length).foldl (last1 (endOf l)) ((List.range (endOf l).toNat).foldl (tick l p q) (start l))
end

/-! ### Reading behind a change -/
theorem fa_say (s : DS) (i j : Nat) (k t : Int) (hi : i < s.fa.length) : (say s i k t).fa.getD j (0, 0) = if j = i then (k, t) else s.fa.getD j (0, 0) := by
  show (s.fa.set i (k, t)).getD j (0, 0) = _
  rw [getD_set_eq]
  by_cases h : i = j
  · subst h; simp [hi]
  · simp [h, Ne.symm h]
theorem kindAt_say (s : DS) (i j : Nat) (k t : Int) (hi : i < s.fa.length) : kindAt (say s i k t) j = if j = i then k else kindAt s j := by
  unfold kindAt; rw [fa_say _ _ _ _ _ hi]; split <;> rfl
theorem say_len (s : DS) (i : Nat) (k t : Int) : (say s i k t).fa.length = s.fa.length := by simp [say]
variable {l : List Job} {t : Nat} {s : DS}
theorem live_iff {t : Int} {i : Nat} : live l s t i = true ↔ (jb l i).rel ≤ t ∧ kindAt s i = 0 := by simp [live]
theorem lives_mem {t : Int} {i : Nat} : i ∈ lives l s t ↔ i < l.length ∧ (jb l i).rel ≤ t ∧ kindAt s i = 0 := by
  unfold lives; rw [List.mem_filter, Rob.byDl_mem, live_iff]
theorem lives_nodup (l : List Job) (s : DS) (t : Int) : (lives l s t).Nodup := by
  unfold lives
  have h : (byDl l).Nodup := (Rob.byDl_sorted l).imp fun {a b} h => by
    unfold Rob.ahead at h
    rintro rfl
    omega
  exact List.Pairwise.filter _ h

/-! ### An alarm -/
/-- What ringGo finds: the one whose alarm rings and those ahead of it are in the list, none of them aborted. -/
theorem ringGo_some {t : Int} : ∀ (r ah : List Nat) (v : Int) {i : Nat} {ah' : List Nat} {v' : Int}, ringGo l s t r ah v = some (i, ah', v') →
    i ∈ r ∧ abo l s i = false ∧ ah' ≠ [] ∧ (jb l i).dl - t ≤ (jb l i).charge - ranAt s i ∧ ∃ e, ah' = ah ++ e ∧ (∀ k ∈ e, k ∈ r ∧ abo l s k = false) ∧ (e ++ [i]).Sublist r
  | [], _, _, _, _, _, h => by cases h
  | k :: r, ah, v, i, ah', v', h => by
    unfold ringGo at h
    split at h
    · obtain ⟨h1, h2, h3, h4, e, h5, h6, h7⟩ := ringGo_some r ah v h
      exact ⟨by simp [h1], h2, h3, h4, e, h5, fun k' hk' => ⟨by simp [(h6 k' hk').1], (h6 k' hk').2⟩, h7.cons _⟩
    · rename_i ha
      have ha' : abo l s k = false := by simpa using ha
      split at h
      · rename_i hc
        simp only [Bool.and_eq_true, Bool.not_eq_true', List.isEmpty_eq_false_iff, decide_eq_true_eq] at hc
        simp only [Option.some.injEq, Prod.mk.injEq] at h
        obtain ⟨rfl, rfl, rfl⟩ := h
        exact ⟨by simp, ha', hc.1, hc.2, [], by simp, by simp, by simp⟩
      · obtain ⟨h1, h2, h3, h4, e, h5, h6, h7⟩ := ringGo_some r (ah ++ [k]) (v + (jb l k).val) h
        refine ⟨by simp [h1], h2, h3, h4, k :: e, by rw [h5]; simp, fun k' hk' => ?_, ?_⟩
        · rcases List.mem_cons.1 hk' with rfl | hk2
          · exact ⟨by simp, ha'⟩
          · exact ⟨by simp [(h6 k' hk2).1], (h6 k' hk2).2⟩
        · rw [List.cons_append]; exact h7.cons_cons _
theorem shedAll_fa (t : Int) : ∀ (ah : List Nat) (s : DS) (j : Nat), (∀ k ∈ ah, k < s.fa.length) → (shedAll t s ah).fa.getD j (0, 0) = if j ∈ ah then (3, t) else s.fa.getD j (0, 0)
  | [], s, j, _ => by simp [shedAll]
  | k :: ah, s, j, h => by
    have hk := h k (by simp)
    have := shedAll_fa t ah (say s k 3 t) j (fun k' hk' => by rw [say_len]; exact h k' (by simp [hk']))
    show (shedAll t (say s k 3 t) ah).fa.getD j (0, 0) = _
    rw [this, fa_say _ _ _ _ _ hk]
    by_cases h1 : j ∈ ah
    · simp [h1]
    · by_cases h2 : j = k
      · simp [h2]
      · simp [h1, h2]
theorem shedAll_rest (t : Int) : ∀ (ah : List Nat) (s : DS), (shedAll t s ah).ran = s.ran ∧ (shedAll t s ah).tr = s.tr ∧ (shedAll t s ah).al = s.al ∧ (shedAll t s ah).fa.length = s.fa.length
  | [], s => ⟨rfl, rfl, rfl, rfl⟩
  | k :: ah, s => by
    have := shedAll_rest t ah (say s k 3 t)
    show (shedAll t (say s k 3 t) ah).ran = _ ∧ (shedAll t (say s k 3 t) ah).tr = _ ∧ (shedAll t (say s k 3 t) ah).al = _ ∧ (shedAll t (say s k 3 t) ah).fa.length = _
    rw [say_len] at this
    exact this
/-- Behind an alarm: some that were live, among them one at least, are shed. -/
structure Shed (l : List Job) (t : Int) (s s' : DS) : Prop where
  ran : s'.ran = s.ran
  tr : s'.tr = s.tr
  len : s'.fa.length = s.fa.length
  one : ∃ i, i < l.length ∧ live l s t i = true ∧ s'.fa.getD i (0, 0) = (3, t)
  each : ∀ j, s'.fa.getD j (0, 0) = s.fa.getD j (0, 0) ∨ (j < l.length ∧ live l s t j = true ∧ abo l s j = false ∧ s'.fa.getD j (0, 0) = (3, t))
theorem dec_shed {p q t : Int} (hlf : s.fa.length = l.length) {i : Nat} {ah : List Nat} {v : Int} (hr : ringGo l s t (lives l s t) [] 0 = some (i, ah, v)) : Shed l t s (dec l p q t s i ah v) ∧ (dec l p q t s i ah v).al = s.al ++ [(i : Int)] := by
  obtain ⟨h1, h2, h3, -, e, h5, h6, -⟩ := ringGo_some _ _ _ hr
  obtain rfl : ah = e := by simpa using h5
  have hi := lives_mem.1 h1
  unfold dec
  split
  · have hlen : ∀ k ∈ ah, k < ({ s with al := s.al ++ [(i : Int)] } : DS).fa.length := fun k hk => by rw [hlf]; exact (lives_mem.1 (h6 k hk).1).1
    obtain ⟨a, b, c, d⟩ := shedAll_rest t ah { s with al := s.al ++ [(i : Int)] }
    refine ⟨⟨a, b, d, ?_, fun j => ?_⟩, c⟩
    · obtain ⟨k, hk⟩ := List.exists_mem_of_ne_nil ah h3
      have hkm := lives_mem.1 (h6 k hk).1
      exact ⟨k, hkm.1, live_iff.2 hkm.2, by rw [shedAll_fa t ah _ k hlen, if_pos hk]⟩
    · rw [shedAll_fa t ah _ j hlen]
      by_cases hj : j ∈ ah
      · rw [if_pos hj]
        have hjm := lives_mem.1 (h6 j hj).1
        exact .inr ⟨hjm.1, live_iff.2 hjm.2, (h6 j hj).2, rfl⟩
      · rw [if_neg hj]; exact .inl rfl
  · have hil : i < ({ s with al := s.al ++ [(i : Int)] } : DS).fa.length := by rw [hlf]; exact hi.1
    refine ⟨⟨rfl, rfl, say_len _ _ _ _, ⟨i, hi.1, live_iff.2 hi.2, by rw [fa_say _ _ _ _ _ hil, if_pos rfl]⟩, fun j => ?_⟩, rfl⟩
    rw [fa_say _ _ _ _ _ hil]
    by_cases hj : j = i
    · subst hj; exact .inr ⟨hi.1, live_iff.2 hi.2, h2, by rw [if_pos rfl]⟩
    · rw [if_neg hj]; exact .inl rfl
theorem ring_shed {p q t : Int} {s' : DS} (hlf : s.fa.length = l.length) (h : ring l p q t s = some s') : Shed l t s s' := by
  unfold ring at h
  obtain ⟨⟨i, ah, v⟩, hr, rfl⟩ := Option.map_eq_some_iff.1 h
  exact (dec_shed hlf hr).1
/-- How many are live. -/
def liveCount (l : List Job) (t : Int) (s : DS) : Nat := ((List.range l.length).filter (live l s t)).length
theorem liveCount_le (l : List Job) (t : Int) (s : DS) : liveCount l t s ≤ l.length := by
  have := List.length_filter_le (live l s t) (List.range l.length)
  unfold liveCount; simpa using this
theorem Shed.live {t : Int} {s' : DS} (h : Shed l t s s') (t' : Int) (j : Nat) (hj : live l s' t' j = true) : live l s t' j = true ∧ s'.fa.getD j (0, 0) = s.fa.getD j (0, 0) := by
  rw [live_iff] at hj
  rcases h.each j with e | ⟨-, -, -, e⟩
  · refine ⟨live_iff.2 ⟨hj.1, ?_⟩, e⟩
    unfold kindAt at hj ⊢; rw [← e]; exact hj.2
  · have := hj.2
    unfold kindAt at this
    rw [e] at this; cases this
theorem Shed.fewer {t : Int} {s' : DS} (h : Shed l t s s') : liveCount l t s' < liveCount l t s := by
  obtain ⟨i, hi, hl, he⟩ := h.one
  refine Rob.filter_length_lt _ _ _ (fun j hj hj2 => (h.live t j hj2).1) i (List.mem_range.2 hi) hl ?_
  cases hh : Dov.live l s' t i with
  | false => rfl
  | true =>
    have := (live_iff.1 hh).2
    unfold kindAt at this
    rw [he] at this; cases this
/-- The alarms of a tick come to an end. -/
theorem rings_end {p q t : Int} : ∀ (f : Nat) (s : DS), s.fa.length = l.length → liveCount l t s < f → ring l p q t (rings l p q t f s) = none
  | 0, s, _, h => by omega
  | f + 1, s, hlf, h => by
    unfold rings
    cases hr : ring l p q t s with
    | none => exact hr
    | some s' =>
      have hs := ring_shed hlf hr
      have := hs.fewer
      exact rings_end f s' (hs.len.trans hlf) (by omega)
theorem rings_some {p q t : Int} {s s' : DS} (f : Nat) (h : ring l p q t s = some s') : rings l p q t (f + 1) s = rings l p q t f s' := by
  rw [rings, h]
theorem rings_none {p q t : Int} {s : DS} (f : Nat) (h : ring l p q t s = none) : rings l p q t f s = s := by
  cases f with
  | zero => rfl
  | succ f => rw [rings, h]
/-- What is kept by each alarm is kept by all. -/
theorem rings_inv {p q t : Int} (I : DS → Prop) (hs : ∀ s s', s.fa.length = l.length → Shed l t s s' → I s → I s') : ∀ (f : Nat) (s : DS), s.fa.length = l.length → I s → I (rings l p q t f s) ∧ (rings l p q t f s).fa.length = l.length
  | 0, s, hlf, h => ⟨h, hlf⟩
  | f + 1, s, hlf, h => by
    unfold rings
    cases hr : ring l p q t s with
    | none => exact ⟨h, hlf⟩
    | some s' =>
      have h1 := ring_shed hlf hr
      exact rings_inv I hs f s' (h1.len.trans hlf) (hs s s' hlf h1 h)

theorem ring_al {p q t : Int} {s' : DS} (hlf : s.fa.length = l.length) (h : ring l p q t s = some s') : s'.al.length = s.al.length + 1 := by
  unfold ring at h
  obtain ⟨⟨i, ah, v⟩, hr, rfl⟩ := Option.map_eq_some_iff.1 h
  rw [(dec_shed hlf hr).2]; simp
theorem rings_al {p q t : Int} : ∀ (f : Nat) (s : DS), s.fa.length = l.length → (rings l p q t f s).al.length ≤ s.al.length + f
  | 0, s, _ => Nat.le_refl _
  | f + 1, s, hlf => by
    unfold rings
    cases hr : ring l p q t s with
    | none => simp only; omega
    | some s' =>
      have h1 := ring_al hlf hr
      have h2 := rings_al (p := p) (q := q) (t := t) f s' ((ring_shed hlf hr).len.trans hlf)
      simp only; omega
theorem runTick_al (l : List Job) (t : Int) (s : DS) : (runTick l t s).al = s.al := by
  unfold runTick
  split
  · rfl
  · unfold runAt; simp only; split <;> rfl
/-! ### What holds at each tick -/
structure Inv (l : List Job) (t : Nat) (s : DS) : Prop where
  lran : s.ran.length = l.length
  lfa : s.fa.length = l.length
  len : l.length ≤ 200
  ok : ∀ j ∈ l, j.Ok
  tlen : s.tr.length = t
  tok : TOk l s.tr
  cnt : ∀ i, i < l.length → ranAt s i = s.tr.count (i : Int)
  waits : ∀ i, i < l.length → kindAt s i = 0 → ranAt s i < (jb l i).work
  met : ∀ i, i < l.length → kindAt s i = 1 → (jb l i).runs = true ∧ ranAt s i = (jb l i).work ∧ doneAt l s.tr i = ((s.fa.getD i (0, 0)).2, true) ∧ (s.fa.getD i (0, 0)).2 ≤ (jb l i).dl
  abo : ∀ i, i < l.length → kindAt s i = 2 → (jb l i).runs = false ∧ ranAt s i = (jb l i).work ∧ doneAt l s.tr i = ((s.fa.getD i (0, 0)).2, true) ∧ (s.fa.getD i (0, 0)).2 ≤ (jb l i).dl
  gone : ∀ i, i < l.length → kindAt s i = 3 ∨ kindAt s i = 5 → ranAt s i < (jb l i).work
  kinds : ∀ i, i < l.length → kindAt s i = 0 ∨ kindAt s i = 1 ∨ kindAt s i = 2 ∨ kindAt s i = 3 ∨ kindAt s i = 5
/-- Only fates of those that waited have turned, to 3 or 5. -/
theorem Inv.turn (h : Inv l t s) {s' : DS} (hr : s'.ran = s.ran) (ht : s'.tr = s.tr) (hl : s'.fa.length = s.fa.length)
    (hf : ∀ j, s'.fa.getD j (0, 0) = s.fa.getD j (0, 0) ∨ (kindAt s j = 0 ∧ (kindAt s' j = 3 ∨ kindAt s' j = 5))) : Inv l t s' := by
  have r : ∀ i, ranAt s' i = ranAt s i := fun i => by unfold ranAt; rw [hr]
  have k : ∀ j, kindAt s' j ≠ 3 → kindAt s' j ≠ 5 → s'.fa.getD j (0, 0) = s.fa.getD j (0, 0) := fun j h3 h5 => by
    rcases hf j with e | ⟨-, e | e⟩
    · exact e
    · exact absurd e h3
    · exact absurd e h5
  have kk : ∀ j, kindAt s' j ≠ 3 → kindAt s' j ≠ 5 → kindAt s' j = kindAt s j := fun j h3 h5 => by unfold kindAt at *; rw [k j h3 h5]
  refine ⟨by rw [hr]; exact h.lran, hl.trans h.lfa, h.len, h.ok, by rw [ht]; exact h.tlen, by rw [ht]; exact h.tok, fun i hi => by rw [r, ht]; exact h.cnt i hi, fun i hi hk => ?_, fun i hi hk => ?_, fun i hi hk => ?_, fun i hi hk => ?_, fun i hi => ?_⟩
  · rw [r]; exact h.waits i hi (by rw [← kk i (by omega) (by omega)]; exact hk)
  · rw [r, ht, k i (by omega) (by omega)]; exact h.met i hi (by rw [← kk i (by omega) (by omega)]; exact hk)
  · rw [r, ht, k i (by omega) (by omega)]; exact h.abo i hi (by rw [← kk i (by omega) (by omega)]; exact hk)
  · rw [r]
    rcases hf i with e | ⟨e, -⟩
    · exact h.gone i hi (by unfold kindAt at *; rw [← e]; exact hk)
    · exact h.waits i hi e
  · rcases hf i with e | ⟨-, e⟩
    · have := h.kinds i hi
      unfold kindAt at *; rw [e]; exact this
    · omega
theorem Inv.shed (h : Inv l t s) {s' : DS} (hs : Shed l t s s') : Inv l t s' := by
  refine h.turn hs.ran hs.tr hs.len fun j => ?_
  rcases hs.each j with e | ⟨h1, h2, -, e⟩
  · exact .inl e
  · exact .inr ⟨(live_iff.1 h2).2, .inl (by unfold kindAt; rw [e])⟩
theorem expire_spec (h : Inv l t s) : Inv l t (expire l t s) ∧ (∀ i, i < l.length → live l (expire l t s) t i = true → (t : Int) < (jb l i).dl ∧ live l s t i = true) ∧ (expire l t s).al = s.al := by
  unfold expire
  have := foldl_range_inv (exp1 l t) l.length (fun k z => Inv l t z ∧ (∀ i, live l z t i = true → live l s t i = true) ∧ (∀ i, i < k → live l z t i = true → (t : Int) < (jb l i).dl) ∧ z.al = s.al) s ⟨h, fun i hi => hi, fun i hi => absurd hi (by omega), rfl⟩ ?_
  · exact ⟨this.1, fun i hi hl => ⟨this.2.2.1 i hi hl, this.2.1 i hl⟩, this.2.2.2⟩
  intro k z hk ⟨h1, h2, h3, h4⟩
  unfold exp1
  split
  · rename_i hc
    simp only [Bool.and_eq_true, decide_eq_true_eq] at hc
    have hkl : k < z.fa.length := by rw [h1.lfa]; exact hk
    have hlv : ∀ i, live l (say z k 5 t) t i = true → live l z t i = true ∧ i ≠ k := fun i hi => by
      rw [live_iff, kindAt_say _ _ _ _ _ hkl] at hi
      by_cases e : i = k
      · rw [if_pos e] at hi; cases hi.2
      · rw [if_neg e] at hi; exact ⟨live_iff.2 hi, e⟩
    refine ⟨h1.turn rfl rfl (say_len _ _ _ _) fun j => ?_, fun i hi => h2 i (hlv i hi).1, fun i hi hl => h3 i (by have := (hlv i hl).2; omega) (hlv i hl).1, h4⟩
    rw [fa_say _ _ _ _ _ hkl]
    by_cases e : j = k
    · subst e
      exact .inr ⟨(live_iff.1 hc.1).2, .inr (by rw [kindAt_say _ _ _ _ _ hkl, if_pos rfl])⟩
    · rw [if_neg e]; exact .inl rfl
  · rename_i hc
    simp only [Bool.and_eq_true, decide_eq_true_eq, not_and] at hc
    refine ⟨h1, h2, fun i hi hl => ?_, h4⟩
    by_cases e : i = k
    · subst e; have := hc hl; omega
    · exact h3 i (by omega) hl
/-- Nobody runs. -/
theorem Inv.idle (h : Inv l t s) : Inv l (t + 1) { s with tr := s.tr ++ [-1] } := by
  have hc : ∀ i : Nat, (s.tr ++ [-1]).count (i : Int) = s.tr.count (i : Int) := fun i => by
    rw [List.count_append, List.count_singleton, if_neg (by simp only [beq_iff_eq]; omega)]; rfl
  refine ⟨h.lran, h.lfa, h.len, h.ok, by simp [h.tlen], h.tok.snoc _ (.inl rfl), fun i hi => by rw [hc]; exact h.cnt i hi, h.waits, ?_, ?_, h.gone, h.kinds⟩
  · intro i hi hk
    obtain ⟨a, b, c, d⟩ := h.met i hi hk
    exact ⟨a, b, Rob.doneAt_keep _ c, d⟩
  · intro i hi hk
    obtain ⟨a, b, c, d⟩ := h.abo i hi hk
    exact ⟨a, b, Rob.doneAt_keep _ c, d⟩
/-- Job i runs at tick t; 'fa' is what is said then. -/
theorem Inv.ran1 (h : Inv l t s) {i : Nat} (hi : i < l.length) (hk0 : kindAt s i = 0) (hrel : (jb l i).rel ≤ t) (hdl : (t : Int) < (jb l i).dl) (fa : List (Int × Int)) (hlf : fa.length = l.length)
    (hfa : ∀ j, j ≠ i → fa.getD j (0, 0) = s.fa.getD j (0, 0))
    (hi' : (fa.getD i (0, 0) = s.fa.getD i (0, 0) ∧ ranAt s i + 1 < (jb l i).work) ∨ (fa.getD i (0, 0) = (1, (t : Int) + 1) ∧ ranAt s i + 1 = (jb l i).work ∧ (jb l i).runs = true) ∨ (fa.getD i (0, 0) = (2, (t : Int) + 1) ∧ ranAt s i + 1 = (jb l i).work ∧ (jb l i).runs = false)) :
    Inv l (t + 1) { s with tr := s.tr ++ [(i : Int)], ran := s.ran.set i (ranAt s i + 1), fa := fa } := by
  have hc : ∀ j : Nat, (s.tr ++ [(i : Int)]).count (j : Int) = s.tr.count (j : Int) + if j = i then 1 else 0 := fun j => by
    rw [List.count_append, List.count_singleton]
    by_cases e : j = i
    · subst e; simp
    · rw [if_neg (by simp only [beq_iff_eq]; omega), if_neg e]
  have hr : ∀ j, ranAt { s with tr := s.tr ++ [(i : Int)], ran := s.ran.set i (ranAt s i + 1), fa := fa } j = if j = i then ranAt s i + 1 else ranAt s j := fun j => by
    show (s.ran.set i (ranAt s i + 1)).getD j 0 = _
    rw [getD_set_eq]
    by_cases e : i = j
    · subst e; rw [if_pos ⟨rfl, by rw [h.lran]; exact hi⟩, if_pos rfl]
    · rw [if_neg (fun h => e h.1), if_neg (Ne.symm e)]; rfl
  have kd : ∀ j, j ≠ i → kindAt { s with tr := s.tr ++ [(i : Int)], ran := s.ran.set i (ranAt s i + 1), fa := fa } j = kindAt s j := fun j e => by
    show (fa.getD j (0, 0)).1 = _; rw [hfa j e]; rfl
  have hcnt := h.cnt i hi
  have hw := h.waits i hi hk0
  have hdone : ranAt s i + 1 = (jb l i).work → doneAt l (s.tr ++ [(i : Int)]) i = ((t : Int) + 1, true) := fun hh => by
    unfold doneAt
    rw [doneGo_snoc _ _ _ _ (by show _ = (jb l i).work; omega), h.tlen]; simp
  have kdi : ∀ q : Int × Int, fa.getD i (0, 0) = q → kindAt { s with tr := s.tr ++ [(i : Int)], ran := s.ran.set i (ranAt s i + 1), fa := fa } i = q.1 := fun q e => by show (fa.getD i (0, 0)).1 = _; rw [e]
  have k0 : (s.fa.getD i (0, 0)).1 = 0 := hk0
  refine ⟨by simpa using h.lran, hlf, h.len, h.ok, by simp [h.tlen], h.tok.snoc _ (.inr ⟨i, hi, rfl, by rw [h.tlen]; exact hrel, by rw [h.tlen]; exact hdl, by show _ < (jb l i).work; omega⟩), fun j hj => ?_, ?_, ?_, ?_, ?_, ?_⟩
  · have := h.cnt j hj
    rw [hr]
    show _ = (((s.tr ++ [(i : Int)]).count (j : Int) : Nat) : Int)
    rw [hc]
    split
    · rename_i e; subst e; omega
    · omega
  · intro j hj hk
    rw [hr]
    by_cases e : j = i
    · subst e
      rw [if_pos rfl]
      rcases hi' with ⟨a, b⟩ | ⟨a, b, c⟩ | ⟨a, b, c⟩
      · exact b
      · rw [kdi _ a] at hk; cases hk
      · rw [kdi _ a] at hk; cases hk
    · rw [if_neg e]; rw [kd j e] at hk; exact h.waits j hj hk
  · intro j hj hk
    rw [hr]
    by_cases e : j = i
    · subst e
      rw [if_pos rfl]
      rcases hi' with ⟨a, b⟩ | ⟨a, b, c⟩ | ⟨a, b, c⟩
      · rw [kdi _ a] at hk; omega
      · show _ ∧ _ ∧ _ = ((fa.getD j (0, 0)).2, true) ∧ (fa.getD j (0, 0)).2 ≤ _
        rw [a]
        exact ⟨c, b, hdone b, by show (t : Int) + 1 ≤ _; omega⟩
      · rw [kdi _ a] at hk; cases hk
    · rw [if_neg e]; rw [kd j e] at hk
      obtain ⟨a, b, c, d⟩ := h.met j hj hk
      show _ ∧ _ ∧ _ = ((fa.getD j (0, 0)).2, true) ∧ (fa.getD j (0, 0)).2 ≤ _
      rw [hfa j e]
      exact ⟨a, b, Rob.doneAt_keep _ c, d⟩
  · intro j hj hk
    rw [hr]
    by_cases e : j = i
    · subst e
      rw [if_pos rfl]
      rcases hi' with ⟨a, b⟩ | ⟨a, b, c⟩ | ⟨a, b, c⟩
      · rw [kdi _ a] at hk; omega
      · rw [kdi _ a] at hk; cases hk
      · show _ ∧ _ ∧ _ = ((fa.getD j (0, 0)).2, true) ∧ (fa.getD j (0, 0)).2 ≤ _
        rw [a]
        exact ⟨c, b, hdone b, by show (t : Int) + 1 ≤ _; omega⟩
    · rw [if_neg e]; rw [kd j e] at hk
      obtain ⟨a, b, c, d⟩ := h.abo j hj hk
      show _ ∧ _ ∧ _ = ((fa.getD j (0, 0)).2, true) ∧ (fa.getD j (0, 0)).2 ≤ _
      rw [hfa j e]
      exact ⟨a, b, Rob.doneAt_keep _ c, d⟩
  · intro j hj hk
    by_cases e : j = i
    · subst e
      rcases hi' with ⟨a, b⟩ | ⟨a, b, c⟩ | ⟨a, b, c⟩
      · rw [kdi _ a] at hk; omega
      · rw [kdi _ a] at hk; omega
      · rw [kdi _ a] at hk; omega
    · rw [hr, if_neg e]; rw [kd j e] at hk; exact h.gone j hj hk
  · intro j hj
    by_cases e : j = i
    · subst e
      rcases hi' with ⟨a, b⟩ | ⟨a, b, c⟩ | ⟨a, b, c⟩
      · rw [kdi _ a]; omega
      · rw [kdi _ a]; simp
      · rw [kdi _ a]; simp
    · rw [kd j e]; exact h.kinds j hj
/-- What runAt says. -/
theorem runAt_eq (l : List Job) (t : Int) (i : Nat) (s : DS) : runAt l t i s = { s with tr := s.tr ++ [(i : Int)], ran := s.ran.set i (ranAt s i + 1), fa := if ranAt s i + 1 < (jb l i).work then s.fa else s.fa.set i (if (jb l i).runs then 1 else 2, t + 1) } := by
  unfold runAt
  split <;> rfl
theorem Inv.runAt (h : Inv l t s) {i : Nat} (hi : i < l.length) (hk0 : kindAt s i = 0) (hrel : (jb l i).rel ≤ t) (hdl : (t : Int) < (jb l i).dl) : Inv l (t + 1) (runAt l t i s) := by
  rw [runAt_eq]
  have hw := h.waits i hi hk0
  have hil : i < s.fa.length := by rw [h.lfa]; exact hi
  refine h.ran1 hi hk0 hrel hdl _ ?_ ?_ ?_
  · split
    · exact h.lfa
    · rw [List.length_set]; exact h.lfa
  · intro j e
    split
    · rfl
    · rw [getD_set_eq, if_neg (fun hh => e hh.1.symm)]
  · by_cases hc : ranAt s i + 1 < (jb l i).work
    · rw [if_pos hc]; exact .inl ⟨rfl, hc⟩
    · rw [if_neg hc, getD_set_eq, if_pos ⟨rfl, hil⟩]
      cases hr : (jb l i).runs with
      | true => exact .inr (.inl ⟨rfl, by omega, rfl⟩)
      | false => exact .inr (.inr ⟨rfl, by omega, rfl⟩)
theorem runTick_spec (h : Inv l t s) (hd : ∀ i, i < l.length → live l s t i = true → (t : Int) < (jb l i).dl) : Inv l (t + 1) (runTick l t s) := by
  unfold runTick
  cases hl : lives l s t with
  | nil => exact h.idle
  | cons i r =>
    obtain ⟨h1, h2, h3⟩ := lives_mem.1 (show i ∈ lives l s t by rw [hl]; simp)
    exact h.runAt h1 h3 h2 (hd i h1 (live_iff.2 ⟨h2, h3⟩))
theorem tick_spec (p q : Int) (h : Inv l t s) : Inv l (t + 1) (tick l p q s t) := by
  obtain ⟨h1, h2, -⟩ := expire_spec h
  unfold tick
  have := rings_inv (p := p) (q := q) (t := t) (l := l) (fun z => Inv l t z ∧ ∀ i, i < l.length → live l z t i = true → (t : Int) < (jb l i).dl) (fun z z' _ hs ⟨a, b⟩ => ⟨a.shed hs, fun i hi hl => b i hi (hs.live t i hl).1⟩) (l.length + 1) (expire l t s) h1.lfa ⟨h1, fun i hi hl => (h2 i hi hl).1⟩
  exact runTick_spec this.1.1 this.1.2
theorem tick_al (p q : Int) (h : Inv l t s) : (tick l p q s t).al.length ≤ s.al.length + (l.length + 1) := by
  obtain ⟨h1, -, h3⟩ := expire_spec h
  unfold tick
  rw [runTick_al]
  have := rings_al (l := l) (p := p) (q := q) (t := t) (l.length + 1) (expire l t s) h1.lfa
  rw [h3] at this; exact this
theorem inv_start (hok : ∀ j ∈ l, j.Ok) (hlen : l.length ≤ 200) : Inv l 0 (start l) := by
  have rep : ∀ i (a : Int), (List.replicate l.length a).getD i a = a := fun i a => by
    rw [List.getD_eq_getElem?_getD, List.getElem?_replicate]; split <;> rfl
  have rep2 : ∀ i, (List.replicate l.length ((0 : Int), (0 : Int))).getD i (0, 0) = (0, 0) := fun i => by
    rw [List.getD_eq_getElem?_getD, List.getElem?_replicate]; split <;> rfl
  have k0 : ∀ i, kindAt (start l) i = 0 := fun i => by show ((List.replicate l.length ((0 : Int), (0 : Int))).getD i (0, 0)).1 = 0; rw [rep2]
  have r0 : ∀ i, ranAt (start l) i = 0 := fun i => rep i 0
  refine ⟨by simp [start], by simp [start], hlen, hok, rfl, TOk.nil l, fun i hi => by rw [r0]; rfl, fun i hi _ => by rw [r0]; exact (jb_ok hok hi).work0, fun i hi h => ?_, fun i hi h => ?_, fun i hi h => ?_, fun i hi => .inl (k0 i)⟩
  · rw [k0] at h; cases h
  · rw [k0] at h; cases h
  · rw [k0] at h; omega
theorem last_spec (h : Inv l t s) (e : Int) : Inv l t ((List.range l.length).foldl (last1 e) s) ∧ (∀ i, i < l.length → kindAt ((List.range l.length).foldl (last1 e) s) i ≠ 0 ∧ (kindAt s i ≠ 0 → ((List.range l.length).foldl (last1 e) s).fa.getD i (0, 0) = s.fa.getD i (0, 0))) ∧
    ((List.range l.length).foldl (last1 e) s).tr = s.tr ∧ ((List.range l.length).foldl (last1 e) s).al = s.al := by
  have := foldl_range_inv (last1 e) l.length (fun k z => Inv l t z ∧ (∀ i, i < k → kindAt z i ≠ 0) ∧ (∀ i, kindAt s i ≠ 0 → z.fa.getD i (0, 0) = s.fa.getD i (0, 0)) ∧ z.tr = s.tr ∧ z.al = s.al) s ⟨h, fun i hi => absurd hi (by omega), fun i _ => rfl, rfl, rfl⟩ ?_
  · exact ⟨this.1, fun i hi => ⟨this.2.1 i hi, this.2.2.1 i⟩, this.2.2.2⟩
  intro k z hk ⟨h1, h2, h3, h4, h5⟩
  unfold last1
  split
  · rename_i hc
    have hkl : k < z.fa.length := by rw [h1.lfa]; exact hk
    refine ⟨h1.turn rfl rfl (say_len _ _ _ _) fun j => ?_, fun i hi => ?_, fun i hi => ?_, h4, h5⟩
    · rw [fa_say _ _ _ _ _ hkl]
      by_cases e : j = k
      · subst e
        exact .inr ⟨hc, .inr (by rw [kindAt_say _ _ _ _ _ hkl, if_pos rfl])⟩
      · rw [if_neg e]; exact .inl rfl
    · rw [kindAt_say _ _ _ _ _ hkl]
      split
      · omega
      · exact h2 i (by omega)
    · rw [fa_say _ _ _ _ _ hkl]
      split
      · rename_i e2
        subst e2
        have := h3 i hi
        unfold kindAt at hc hi
        rw [this] at hc
        exact absurd hc hi
      · exact h3 i hi
  · rename_i hc
    refine ⟨h1, fun i hi => ?_, h3, h4, h5⟩
    by_cases e : i = k
    · subst e; exact hc
    · exact h2 i (by omega)
/-- THE PLAIN LAW OF THE TRACE. -/
theorem trace_law (p q : Int) (hok : ∀ j ∈ l, j.Ok) (hlen : l.length ≤ 200) :
    (run l p q).fa.length = l.length ∧ traceOk l (run l p q).tr = true ∧ ∀ i, i < l.length →
      (((run l p q).fa.getD i (0, 0)).1 = 1 ∧ (jb l i).runs = true ∧ doneAt l (run l p q).tr i = (((run l p q).fa.getD i (0, 0)).2, true) ∧ ((run l p q).fa.getD i (0, 0)).2 ≤ (jb l i).dl) ∨
      (((run l p q).fa.getD i (0, 0)).1 = 2 ∧ (jb l i).runs = false ∧ doneAt l (run l p q).tr i = (((run l p q).fa.getD i (0, 0)).2, true) ∧ ((run l p q).fa.getD i (0, 0)).2 ≤ (jb l i).dl) ∨
      ((((run l p q).fa.getD i (0, 0)).1 = 3 ∨ ((run l p q).fa.getD i (0, 0)).1 = 5) ∧ (doneAt l (run l p q).tr i).2 = false) := by
  have hend0 := endOf_nonneg l
  have hend1 : endOf l ≤ 10000 := endOf_le (by omega) fun j hj => (hok j hj).dl1
  have hrun := foldl_range_inv (tick l p q) (endOf l).toNat (fun t s => Inv l t s) (start l) (inv_start hok hlen) (fun t s _ h => tick_spec p q h)
  unfold run
  generalize (List.range (endOf l).toNat).foldl (tick l p q) (start l) = s at hrun ⊢
  obtain ⟨h3, h4, -, -⟩ := last_spec hrun (endOf l)
  generalize (List.range l.length).foldl (last1 (endOf l)) s = z at h3 h4 ⊢
  refine ⟨h3.lfa, traceOk_of h3.tok (by rw [h3.tlen]; omega), fun i hi => ?_⟩
  have hgone : kindAt z i = 3 ∨ kindAt z i = 5 → (doneAt l z.tr i).2 = false := fun e => by
    have h7 := h3.gone i hi e
    rw [h3.cnt i hi] at h7
    show (doneGo i (jb l i).work 0 z.tr).2 = false
    rw [doneGo_none _ _ _ _ h7]
  rcases h3.kinds i hi with e | e | e | e | e
  · exact absurd e (h4 i hi).1
  · exact .inl ⟨e, (h3.met i hi e).1, (h3.met i hi e).2.2⟩
  · exact .inr (.inl ⟨e, (h3.abo i hi e).1, (h3.abo i hi e).2.2⟩)
  · exact .inr (.inr ⟨.inl e, hgone (.inl e)⟩)
  · exact .inr (.inr ⟨.inr e, hgone (.inr e)⟩)
end Dov
end Go.Proofs.YtjgegnjclmkpeaaDoor
