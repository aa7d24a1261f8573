/- Plain: whatever comes, each job that is neither refused nor set aside is done, or cleaned up, by its deadline. No program in sight. -/
import Derived.Test.YtjgegnjclmkpeaaDoorRobInv
namespace Go.Proofs.YtjgegnjclmkpeaaDoor
namespace Rob

/-- What holds at tick t; A: who has arrived. -/
structure Inv (l : List Job) (A : Nat → Bool) (t : Nat) (s : RS) : Prop where
  lis : s.is.length = l.length
  lran : s.ran.length = l.length
  lfa : s.fa.length = l.length
  len : l.length ≤ 200
  ok : ∀ j ∈ l, j.Ok
  tlen : s.tr.length = t
  tok : TOk l s.tr
  cnt : ∀ i, i < l.length → ranAt s i = s.tr.count (i : Int)
  new : ∀ i, i < l.length → A i = false → isAt s i = 0 ∧ kindAt s i = 0 ∧ ranAt s i = 0
  old : ∀ i, i < l.length → A i = true → isAt s i = 1 ∨ isAt s i = 2
  soft : ∀ i, i < l.length → isAt s i = 2 → (jb l i).hard = false
  waits : ∀ i, i < l.length → kindAt s i = 0 → ranAt s i < (jb l i).work
  met : ∀ i, i < l.length → kindAt s i = 1 → (jb l i).runs = true ∧ ranAt s i = (jb l i).work ∧ doneAt l s.tr i = ((s.fa.getD i (0, 0)).2, true) ∧ (s.fa.getD i (0, 0)).2 ≤ (jb l i).dl
  abo : ∀ i, i < l.length → kindAt s i = 2 → (jb l i).runs = false ∧ ranAt s i = (jb l i).work ∧ doneAt l s.tr i = ((s.fa.getD i (0, 0)).2, true) ∧ (s.fa.getD i (0, 0)).2 ≤ (jb l i).dl
  shed : ∀ i, i < l.length → kindAt s i = 3 → isAt s i = 2 ∧ ranAt s i < (jb l i).work
  ref : ∀ i, i < l.length → kindAt s i = 4 → (jb l i).hard = true ∧ ranAt s i = 0 ∧ (s.fa.getD i (0, 0)).2 = (jb l i).rel
  kinds : ∀ i, i < l.length → 0 ≤ kindAt s i ∧ kindAt s i ≤ 4

variable {l : List Job} {A : Nat → Bool} {t : Nat} {s : RS}

theorem Inv.le_work (h : Inv l A t s) {i : Nat} (hi : i < l.length) : ranAt s i ≤ (jb l i).work := by
  have h0 := h.kinds i hi
  have h1 := h.waits i hi
  have h2 := h.met i hi
  have h3 := h.abo i hi
  have h4 := h.shed i hi
  have h5 := h.ref i hi
  have h6 := (jb_ok h.ok hi).work0
  rcases (by omega : kindAt s i = 0 ∨ kindAt s i = 1 ∨ kindAt s i = 2 ∨ kindAt s i = 3 ∨ kindAt s i = 4) with e | e | e | e | e
  · have := h1 e; omega
  · have := (h2 e).2.1; omega
  · have := (h3 e).2.1; omega
  · have := (h4 e).2; omega
  · have := (h5 e).2.1; omega
theorem Inv.bd (h : Inv l A t s) : Bd l s := ⟨h.len, h.ok, fun i hi => ⟨by rw [h.cnt i hi]; omega, h.le_work hi⟩⟩
theorem opn_iff {s : RS} {i : Nat} {v : Int} : opn s i v = true ↔ isAt s i = v ∧ kindAt s i = 0 := by simp [opn]

/-- Only what a job is has turned: what must be paid. -/
theorem Inv.setIs (h : Inv l A t s) {is sh ag : List Int} {B : Nat → Bool} (hl : is.length = s.is.length)
    (hB : ∀ i, i < l.length → A i = true → B i = true) (hnew : ∀ i, i < l.length → B i = false → is.getD i 0 = isAt s i)
    (hold : ∀ i, i < l.length → B i = true → is.getD i 0 = 1 ∨ is.getD i 0 = 2) (hsoft : ∀ i, i < l.length → is.getD i 0 = 2 → (jb l i).hard = false)
    (hshed : ∀ i, i < l.length → kindAt s i = 3 → is.getD i 0 = 2) : Inv l B t { s with is := is, sh := sh, ag := ag } where
  lis := by rw [← h.lis]; exact hl
  lran := h.lran
  lfa := h.lfa
  len := h.len
  ok := h.ok
  tlen := h.tlen
  tok := h.tok
  cnt := h.cnt
  new := fun i hi hb => by
    have ha : A i = false := by
      cases e : A i with
      | false => rfl
      | true => rw [hB i hi e] at hb; cases hb
    obtain ⟨h1, h2, h3⟩ := h.new i hi ha
    exact ⟨by show is.getD i 0 = 0; rw [hnew i hi hb]; exact h1, h2, h3⟩
  old := hold
  soft := hsoft
  waits := h.waits
  met := h.met
  abo := h.abo
  shed := fun i hi hk => ⟨hshed i hi hk, (h.shed i hi hk).2⟩
  ref := h.ref
  kinds := h.kinds

/-! ### Arrivals -/
/-- What the loop of an arrival keeps: 's1' is the state at its start. -/
structure Loop (l : List Job) (s1 s : RS) (xs : List Int) : Prop where
  ran : s.ran = s1.ran
  tr : s.tr = s1.tr
  fa : s.fa = s1.fa
  ag : s.ag = s1.ag
  lis : s.is.length = s1.is.length
  sh : s.sh = s1.sh ++ xs
  cand : ∀ x ∈ xs, ∃ k : Nat, k < l.length ∧ x = k ∧ isAt s1 k = 1 ∧ kindAt s1 k = 0 ∧ (jb l k).hard = false
  is : ∀ j, j < l.length → isAt s j = if (j : Int) ∈ xs then 2 else isAt s1 j
def openCount (l : List Job) (s : RS) : Nat := ((List.range l.length).filter fun i => opn s i 1).length
theorem openCount_le (l : List Job) (s : RS) : openCount l s ≤ l.length := by
  have := List.length_filter_le (fun i => opn s i 1) (List.range l.length)
  simpa [openCount] using this
theorem filter_length_lt {α : Type} (r : List α) (p q : α → Bool) (h : ∀ i ∈ r, q i = true → p i = true) (x : α) (hx : x ∈ r) (hp : p x = true) (hq : q x = false) : (r.filter q).length < (r.filter p).length := by
  have le : ∀ r : List α, (∀ i ∈ r, q i = true → p i = true) → (r.filter q).length ≤ (r.filter p).length := by
    intro r h
    induction r with
    | nil => simp
    | cons y r ih =>
      have h2 := ih fun i hi => h i (by simp [hi])
      have h1 := h y (by simp)
      simp only [List.filter_cons]
      cases hqy : q y with
      | true => rw [h1 hqy]; simp; omega
      | false => cases p y <;> simp <;> omega
  induction r with
  | nil => simp at hx
  | cons y r ih =>
    have h2 := le r fun i hi => h i (by simp [hi])
    have h1 := h y (by simp)
    simp only [List.filter_cons]
    rcases List.mem_cons.1 hx with rfl | hx
    · rw [hp, hq]; simp; omega
    · have h3 := ih (fun i hi => h i (by simp [hi])) hx
      cases hqy : q y with
      | true => rw [h1 hqy]; simp; omega
      | false => cases p y <;> simp <;> omega

theorem restore_is (xs : List Int) (j : Nat) (is : List Int) (hx : ∀ x ∈ xs, 0 ≤ x) (hj : j < is.length) :
    (xs.foldl (fun is x => is.set x.toNat 1) is).getD j 0 = if (j : Int) ∈ xs then 1 else is.getD j 0 := by
  induction xs generalizing is with
  | nil => simp
  | cons x xs ih =>
    have h0 := hx x (by simp)
    rw [List.foldl_cons, ih _ (fun y hy => hx y (by simp [hy])) (by simpa using hj), getD_set_eq]
    by_cases e : (j : Int) ∈ xs
    · simp [e]
    · by_cases e2 : x.toNat = j
      · have : x = (j : Int) := by omega
        simp [this, hj]
      · have : ¬ (j : Int) = x := by omega
        simp [e, e2, this]
theorem restore_len (xs : List Int) (is : List Int) : (xs.foldl (fun is x => is.set x.toNat 1) is).length = is.length := by
  induction xs generalizing is with
  | nil => rfl
  | cons x xs ih => rw [List.foldl_cons, ih]; simp

theorem arrLoop_spec (A B : Nat → Bool) (s0 s1 : RS) (i : Nat) (hi : i < l.length) (h0 : Inv l A t s0) (hf0 : fits l s0 t = true) (ht : t ≤ 10000) (hs1 : s1 = { s0 with is := s0.is.set i 1 })
    (hA : A i = false) (hB : ∀ j, B j = (A j || decide (j = i))) (hrel : (jb l i).rel = t) :
    ∀ (f : Nat) (s : RS) (xs : List Int), Loop l s1 s xs → openCount l s < f →
      Inv l B t (arrLoop l t i s1.sh.length f s) ∧ fits l (arrLoop l t i s1.sh.length f s) t = true := by
  obtain ⟨n1, n2, n3⟩ := h0.new i hi hA
  have hi0 : i < s0.is.length := by rw [h0.lis]; exact hi
  have is1 : ∀ j, isAt s1 j = if j = i then 1 else isAt s0 j := by
    intro j
    subst hs1
    show (s0.is.set i 1).getD j 0 = _
    rw [getD_set_eq]
    by_cases e : i = j
    · subst e; simp [hi0]
    · simp [e, Ne.symm e, isAt]
  have k1 : ∀ j, kindAt s1 j = kindAt s0 j := fun j => by subst hs1; rfl
  have r1 : ∀ j, ranAt s1 j = ranAt s0 j := fun j => by subst hs1; rfl
  intro f
  induction f with
  | zero => intro s xs _ hc; omega
  | succ f ih =>
    intro s xs L hc
    have ks : ∀ j, kindAt s j = kindAt s0 j := fun j => by rw [← k1]; unfold kindAt; rw [L.fa]
    have rs : ∀ j, ranAt s j = ranAt s0 j := fun j => by rw [← r1]; unfold ranAt; rw [L.ran]
    -- the state within the loop keeps what holds
    have hs : s = { s0 with is := s.is, sh := s.sh, ag := s.ag } := by
      have a := L.ran; have b := L.tr; have c := L.fa
      subst hs1
      cases s; simp_all
    have inv : Inv l B t s := by
      rw [hs]
      refine h0.setIs (by rw [L.lis, hs1]; simp) (fun j _ ha => by rw [hB, ha]; rfl) (fun j hj hb => ?_) (fun j hj hb => ?_) (fun j hj h2 => ?_) (fun j hj hk => ?_)
      · have e := L.is j hj
        have hjx : (j : Int) ∉ xs := fun hx => by
          obtain ⟨k, _, ek, e1, _⟩ := L.cand _ hx
          obtain rfl : j = k := by omega
          rw [is1] at e1
          rw [hB] at hb
          simp only [Bool.or_eq_false_iff, decide_eq_false_iff_not] at hb
          rw [if_neg hb.2, (h0.new j hj hb.1).1] at e1
          omega
        rw [if_neg hjx, is1, if_neg (by rw [hB] at hb; simp at hb; exact hb.2)] at e
        exact e
      · have e := L.is j hj
        show isAt s j = 1 ∨ isAt s j = 2
        rw [e]
        split
        · exact .inr rfl
        · rw [is1]
          split
          · exact .inl rfl
          · rw [hB] at hb
            simp only [Bool.or_eq_true, decide_eq_true_eq] at hb
            exact h0.old j hj (hb.resolve_right (by assumption))
      · have e := L.is j hj
        replace h2 : isAt s j = 2 := h2
        rw [e] at h2
        split at h2
        · rename_i hx
          obtain ⟨k, _, ek, _, _, hh⟩ := L.cand _ hx
          obtain rfl : j = k := by omega
          exact hh
        · rw [is1] at h2
          split at h2
          · cases h2
          · exact h0.soft j hj h2
      · have e := L.is j hj
        show isAt s j = 2
        rw [e]
        split
        · rfl
        · rw [is1, if_neg (by rintro rfl; rw [n2] at hk; cases hk)]
          exact (h0.shed j hj hk).1
    unfold arrLoop
    split
    · rename_i hf
      exact ⟨inv, hf⟩
    rename_i hnf
    obtain ⟨b1, b2, b3, b4⟩ := least_spec l s
    split
    · rename_i hlt
      rw [decide_eq_true_eq] at hlt
      have hno := b4 hlt
      -- the arrival is hard: a firm one would be given up itself
      have hxi : (i : Int) ∉ xs := fun hx => by
        apply hnf
        refine fits_mono h0.bd inv.bd (by omega) (by omega) (fun j hj ho => ?_) hf0
        rw [opn_iff] at ho ⊢
        obtain ⟨o1, o2⟩ := ho
        rw [L.is j hj] at o1
        split at o1
        · cases o1
        · rename_i hjx
          rw [is1, if_neg (by rintro rfl; exact hjx hx)] at o1
          exact ⟨⟨o1, by rw [← ks]; exact o2⟩, by rw [rs]; omega⟩
      have hhard : (jb l i).hard = true := by
        cases e : (jb l i).hard with
        | true => rfl
        | false =>
          refine absurd ⟨?_, e, ?_⟩ (hno i hi)
          · rw [opn_iff, L.is i hi, if_neg hxi, is1, if_pos rfl, ks]; exact ⟨rfl, n2⟩
          · rw [rs, n3]; have := (jb_ok h0.ok hi).bud0; omega
      have hdrop : s.sh.drop s1.sh.length = xs := by rw [L.sh]; simp
      have hil : s.is.length = l.length := by rw [L.lis, hs1]; simpa using h0.lis
      have isR : ∀ j, j < l.length → isAt (say (restore s1.sh.length s) i 4 t) j = isAt s1 j := by
        intro j hj
        show ((s.sh.drop s1.sh.length).foldl (fun is x => is.set x.toNat 1) s.is).getD j 0 = _
        rw [hdrop, restore_is xs j s.is (fun x hx => by obtain ⟨k, _, rfl, _⟩ := L.cand x hx; omega) (by omega)]
        split
        · rename_i hx
          obtain ⟨k, _, ek, e1, _⟩ := L.cand _ hx
          obtain rfl : j = k := by omega
          exact e1.symm
        · rename_i hx
          have := L.is j hj
          rw [if_neg hx] at this
          exact this
      have hfl : (restore s1.sh.length s).fa.length = l.length := by show s.fa.length = _; rw [L.fa, hs1]; exact h0.lfa
      have faR : ∀ j, (say (restore s1.sh.length s) i 4 t).fa.getD j (0, 0) = if j = i then (4, (t : Int)) else s0.fa.getD j (0, 0) := by
        intro j
        rw [fa_say _ _ _ _ _ (by omega)]
        split
        · rfl
        · show s.fa.getD j (0, 0) = _; rw [L.fa, hs1]
      have kR : ∀ j, kindAt (say (restore s1.sh.length s) i 4 t) j = if j = i then 4 else kindAt s0 j := by
        intro j; unfold kindAt; rw [faR]; split <;> rfl
      have rR : ∀ j, ranAt (say (restore s1.sh.length s) i 4 t) j = ranAt s0 j := fun j => rs j
      have trR : (say (restore s1.sh.length s) i 4 t).tr = s0.tr := by show s.tr = _; rw [L.tr, hs1]
      have invR : Inv l B t (say (restore s1.sh.length s) i 4 t) := by
        refine ⟨?_, ?_, ?_, h0.len, h0.ok, ?_, ?_, ?_, ?_, ?_, ?_, ?_, ?_, ?_, ?_, ?_, ?_⟩
        · show ((s.sh.drop s1.sh.length).foldl (fun is x => is.set x.toNat 1) s.is).length = _
          rw [restore_len]; exact hil
        · show s.ran.length = _; rw [L.ran, hs1]; exact h0.lran
        · show (s.fa.set i (4, (t : Int))).length = _
          rw [List.length_set]; exact hfl
        · rw [trR]; exact h0.tlen
        · rw [trR]; exact h0.tok
        · intro j hj; rw [trR, rR]; exact h0.cnt j hj
        · intro j hj hb
          rw [hB] at hb
          simp only [Bool.or_eq_false_iff, decide_eq_false_iff_not] at hb
          obtain ⟨m1, m2, m3⟩ := h0.new j hj hb.1
          exact ⟨by rw [isR j hj, is1, if_neg hb.2]; exact m1, by rw [kR, if_neg hb.2]; exact m2, by rw [rR]; exact m3⟩
        · intro j hj hb
          rw [isR j hj, is1]
          split
          · exact .inl rfl
          · rw [hB] at hb
            simp only [Bool.or_eq_true, decide_eq_true_eq] at hb
            exact h0.old j hj (hb.resolve_right (by assumption))
        · intro j hj h2
          rw [isR j hj, is1] at h2
          split at h2
          · cases h2
          · exact h0.soft j hj h2
        · intro j hj hk
          rw [kR] at hk
          split at hk
          · cases hk
          · rw [rR]; exact h0.waits j hj hk
        · intro j hj hk
          rw [kR] at hk
          split at hk
          · cases hk
          · rename_i hne
            rw [rR, trR, faR, if_neg hne]; exact h0.met j hj hk
        · intro j hj hk
          rw [kR] at hk
          split at hk
          · cases hk
          · rename_i hne
            rw [rR, trR, faR, if_neg hne]; exact h0.abo j hj hk
        · intro j hj hk
          rw [kR] at hk
          split at hk
          · cases hk
          · rename_i hne
            rw [rR, isR j hj, is1, if_neg hne]; exact h0.shed j hj hk
        · intro j hj hk
          rw [kR] at hk
          split at hk
          · rename_i e
            subst e
            rw [rR, faR, if_pos rfl]
            exact ⟨hhard, n3, hrel.symm⟩
          · rename_i hne
            rw [rR, faR, if_neg hne]; exact h0.ref j hj hk
        · intro j hj
          rw [kR]
          split
          · omega
          · exact h0.kinds j hj
      refine ⟨invR, fits_mono h0.bd invR.bd (by omega) (by omega) (fun j hj ho => ?_) hf0⟩
      rw [opn_iff] at ho ⊢
      obtain ⟨o1, o2⟩ := ho
      rw [kR] at o2
      split at o2
      · cases o2
      · rename_i hne
        rw [isR j hj, is1, if_neg hne] at o1
        exact ⟨⟨o1, o2⟩, by rw [rR]; omega⟩
    · rename_i hge
      rw [decide_eq_true_eq] at hge
      obtain ⟨c1, c2, c3⟩ := b3 (by omega)
      have hk : ((least l s).toNat : Int) = least l s := by omega
      have hkl : (least l s).toNat < l.length := by omega
      rw [opn_iff] at c1
      have hkx : least l s ∉ xs := fun hx => by
        have := L.is _ hkl
        rw [hk, if_pos hx] at this
        omega
      have hil : s.is.length = l.length := by rw [L.lis, hs1]; simpa using h0.lis
      have isN : ∀ j, (s.is.set (least l s).toNat 2).getD j 0 = if j = (least l s).toNat then 2 else isAt s j := by
        intro j
        rw [getD_set_eq]
        by_cases e : (least l s).toNat = j
        · rw [if_pos ⟨e, by omega⟩, if_pos e.symm]
        · rw [if_neg (fun h => e h.1), if_neg (Ne.symm e)]; rfl
      refine ih _ (xs ++ [least l s]) ⟨L.ran, L.tr, L.fa, L.ag, by simpa using L.lis, by show s.sh ++ _ = _; rw [L.sh]; simp, ?_, ?_⟩ ?_
      · intro x hx
        rcases List.mem_append.1 hx with hx | hx
        · exact L.cand x hx
        · simp only [List.mem_singleton] at hx
          subst hx
          refine ⟨(least l s).toNat, hkl, hk.symm, ?_, ?_, c2⟩
          · have := L.is _ hkl
            rw [hk, if_neg hkx] at this
            rw [← this]; exact c1.1
          · rw [k1, ← ks]; exact c1.2
      · intro j hj
        show (s.is.set (least l s).toNat 2).getD j 0 = _
        rw [isN, L.is j hj]
        by_cases e : j = (least l s).toNat
        · subst e
          rw [if_pos rfl, if_pos (by simp [hk])]
        · rw [if_neg e]
          have : (j : Int) ≠ least l s := by omega
          simp [this]
      · have : openCount l { s with is := s.is.set (least l s).toNat 2, sh := s.sh ++ [least l s] } < openCount l s := by
          refine filter_length_lt _ _ _ (fun j _ ho => ?_) (least l s).toNat (by simpa using hkl) (by rw [opn_iff]; exact c1) ?_
          · rw [opn_iff] at ho ⊢
            obtain ⟨o1, o2⟩ := ho
            replace o1 : (s.is.set (least l s).toNat 2).getD j 0 = 1 := o1
            rw [isN] at o1
            split at o1
            · cases o1
            · exact ⟨o1, o2⟩
          · cases h : opn { s with is := s.is.set (least l s).toNat 2, sh := s.sh ++ [least l s] } (least l s).toNat 1 with
            | false => rfl
            | true =>
              rw [opn_iff] at h
              have h1 : (s.is.set (least l s).toNat 2).getD (least l s).toNat 0 = 1 := h.1
              rw [isN, if_pos rfl] at h1
              cases h1
        omega

theorem arrive_spec (A B : Nat → Bool) (i : Nat) (hi : i < l.length) (h : Inv l A t s) (hf : fits l s t = true) (ht : t ≤ 10000) (hA : A i = false) (hB : ∀ j, B j = (A j || decide (j = i))) (hrel : (jb l i).rel = t) :
    Inv l B t (arrive l t s i) ∧ fits l (arrive l t s i) t = true := by
  unfold arrive
  refine arrLoop_spec A B s { s with is := s.is.set i 1 } i hi h hf ht rfl hA hB hrel (l.length + 1) _ [] ⟨rfl, rfl, rfl, rfl, rfl, by simp, by simp, by simp⟩ ?_
  have := openCount_le l { s with is := s.is.set i 1 }
  omega

/-- All arrivals of a tick. -/
theorem arrivals_spec (h : Inv l (fun i => decide ((jb l i).rel < t)) t s) (hf : fits l s t = true) (ht : t ≤ 10000) :
    Inv l (fun i => decide ((jb l i).rel < t + 1)) t ((List.range l.length).foldl (arrive1 l t) s) ∧ fits l ((List.range l.length).foldl (arrive1 l t) s) t = true := by
  have := foldl_range_inv (arrive1 l t) l.length (fun k s => Inv l (fun i => decide ((jb l i).rel < t ∨ ((jb l i).rel = t ∧ i < k))) t s ∧ fits l s t = true) s ⟨by simpa using h, hf⟩ ?_
  · refine ⟨?_, this.2⟩
    have h2 := this.1
    refine ⟨h2.lis, h2.lran, h2.lfa, h2.len, h2.ok, h2.tlen, h2.tok, h2.cnt, fun i hi ha => h2.new i hi ?_, fun i hi ha => h2.old i hi ?_, h2.soft, h2.waits, h2.met, h2.abo, h2.shed, h2.ref, h2.kinds⟩
    · simp only [decide_eq_false_iff_not] at ha ⊢; omega
    · simp only [decide_eq_true_eq] at ha ⊢; omega
  · intro k b hk ⟨h1, h2⟩
    unfold arrive1
    split
    · rename_i e
      refine arrive_spec _ _ k hk h1 h2 ht (by simp only [decide_eq_false_iff_not]; omega) (fun j => ?_) e
      rw [Bool.eq_iff_iff]
      simp only [decide_eq_true_eq, Bool.or_eq_true]
      constructor
      · rintro (h | ⟨h, h'⟩)
        · exact .inl (.inl h)
        · by_cases e2 : j = k
          · exact .inr e2
          · exact .inl (.inr ⟨h, by omega⟩)
      · rintro ((h | ⟨h, h'⟩) | h)
        · exact .inl h
        · exact .inr ⟨h, by omega⟩
        · subst h; exact .inr ⟨e, by omega⟩
    · rename_i e
      refine ⟨⟨h1.lis, h1.lran, h1.lfa, h1.len, h1.ok, h1.tlen, h1.tok, h1.cnt, fun i hi ha => h1.new i hi ?_, fun i hi ha => h1.old i hi ?_, h1.soft, h1.waits, h1.met, h1.abo, h1.shed, h1.ref, h1.kinds⟩, h2⟩
      · simp only [decide_eq_false_iff_not] at ha ⊢; omega
      · simp only [decide_eq_true_eq] at ha ⊢
        rcases ha with ha | ⟨ha, hb⟩
        · exact .inl ha
        · refine .inr ⟨ha, ?_⟩
          rcases Nat.lt_succ_iff_lt_or_eq.1 hb with h | rfl
          · exact h
          · exact absurd ha e

/-! ### Who is set aside and cannot be done any more -/
theorem Inv.say3 (h : Inv l A t s) {i : Nat} (hi : i < l.length) (ho : opn s i 2 = true) (at_ : Int) : Inv l A t (say s i 3 at_) := by
  rw [opn_iff] at ho
  have hil : i < s.fa.length := by rw [h.lfa]; exact hi
  have fa := fun j => fa_say s i j 3 at_ hil
  have kd := fun j => kindAt_say s i j 3 at_ hil
  refine ⟨h.lis, h.lran, by show (s.fa.set i (3, at_)).length = _; rw [List.length_set]; exact h.lfa, h.len, h.ok, h.tlen, h.tok, h.cnt, ?_, h.old, h.soft, ?_, ?_, ?_, ?_, ?_, ?_⟩
  · intro j hj ha
    obtain ⟨a, b, c⟩ := h.new j hj ha
    refine ⟨a, ?_, c⟩
    rw [kd, if_neg (by rintro rfl; omega)]; exact b
  · intro j hj hk
    rw [kd] at hk
    split at hk
    · cases hk
    · exact h.waits j hj hk
  · intro j hj hk
    rw [kd] at hk
    split at hk
    · cases hk
    · rename_i hne; rw [fa, if_neg hne]; exact h.met j hj hk
  · intro j hj hk
    rw [kd] at hk
    split at hk
    · cases hk
    · rename_i hne; rw [fa, if_neg hne]; exact h.abo j hj hk
  · intro j hj hk
    rw [kd] at hk
    split at hk
    · rename_i e; subst e; exact ⟨ho.1, h.waits j hj ho.2⟩
    · exact h.shed j hj hk
  · intro j hj hk
    rw [kd] at hk
    split at hk
    · cases hk
    · rename_i hne; rw [fa, if_neg hne]; exact h.ref j hj hk
  · intro j hj
    rw [kd]
    split
    · omega
    · exact h.kinds j hj
theorem opn_say3 (hfa : s.fa.length = l.length) {i j : Nat} (hi : i < l.length) (at_ : Int) (ho : opn (say s i 3 at_) j 1 = true) : opn s j 1 = true := by
  rw [opn_iff] at ho ⊢
  obtain ⟨a, b⟩ := ho
  rw [kindAt_say _ _ _ _ _ (by omega)] at b
  split at b
  · cases b
  · exact ⟨a, b⟩
theorem late_spec (h : Inv l A t s) (hf : fits l s t = true) (ht : t ≤ 10000) : Inv l A t (late l t s) ∧ fits l (late l t s) t = true := by
  unfold late
  refine foldl_range_inv (late1 l t) l.length (fun _ s => Inv l A t s ∧ fits l s t = true) s ⟨h, hf⟩ ?_
  intro k b hk ⟨h1, h2⟩
  unfold late1
  split
  · rename_i hc
    simp only [Bool.and_eq_true] at hc
    have h3 := h1.say3 hk hc.1 t
    exact ⟨h3, fits_mono h1.bd h3.bd (by omega) (by omega) (fun j _ ho => ⟨opn_say3 h1.lfa hk t ho, Int.le_refl _⟩) h2⟩
  · exact ⟨h1, h2⟩
theorem last_spec (h : Inv l A t s) (e : Int) : Inv l A t ((List.range l.length).foldl (last1 e) s) ∧ (∀ i, i < l.length → opn ((List.range l.length).foldl (last1 e) s) i 2 = false) ∧ (∀ i, opn ((List.range l.length).foldl (last1 e) s) i 1 = true → opn s i 1 = true) ∧
    ((List.range l.length).foldl (last1 e) s).ran = s.ran := by
  have := foldl_range_inv (last1 e) l.length (fun k s' => Inv l A t s' ∧ (∀ i, i < k → opn s' i 2 = false) ∧ (∀ i, opn s' i 1 = true → opn s i 1 = true) ∧ s'.ran = s.ran) s ⟨h, fun i hi => absurd hi (by omega), fun _ h => h, rfl⟩ ?_
  · exact this
  intro k b hk ⟨h1, h2, h3, h4⟩
  unfold last1
  split
  · rename_i hc
    refine ⟨h1.say3 hk hc e, fun i hi => ?_, fun i ho => h3 i (opn_say3 h1.lfa hk e ho), h4⟩
    cases ho : opn (say b k 3 e) i 2 with
    | false => rfl
    | true =>
      rw [opn_iff, kindAt_say _ _ _ _ _ (by rw [h1.lfa]; exact hk)] at ho
      obtain ⟨o1, o2⟩ := ho
      split at o2
      · cases o2
      · have := h2 i (by omega)
        have h5 : opn b i 2 = true := opn_iff.2 ⟨o1, o2⟩
        rw [this] at h5; cases h5
  · rename_i hc
    refine ⟨h1, fun i hi => ?_, h3, h4⟩
    by_cases e2 : i = k
    · subst e2; simpa using hc
    · exact h2 i (by omega)

/-! ### One tick of the one that runs -/
/-- The earliest deadline ran: what fitted at t fits at t + 1. -/
theorem edf_step {s s' : RS} {i0 : Nat} (hb : Bd l s) (hb' : Bd l s') (hi0 : i0 < l.length) (ht : t ≤ 10000) (hf : fits l s t = true) (ho0 : opn s i0 1 = true)
    (hmin : ∀ i, i < l.length → opn s i 1 = true → (jb l i0).dl ≤ (jb l i).dl) (hneed : 1 ≤ need l s i0)
    (hsub : ∀ i, i < l.length → opn s' i 1 = true → opn s i 1 = true) (hran : ∀ i, ranAt s' i = if i = i0 then ranAt s i + 1 else ranAt s i) : fits l s' (t + 1) = true := by
  rw [fits_iff hb' _ (by omega) (by omega)]
  rw [fits_iff hb _ (by omega) (by omega)] at hf
  intro i hi ho
  have h1 := hf i hi (hsub i hi ho)
  have h2 := hmin i hi (hsub i hi ho)
  have h3 : load l s' (jb l i).dl + 1 ≤ load l s (jb l i).dl := by
    refine sum_map_lt _ _ _ i0 (by simpa using hi0) (fun j hj => ?_) ?_
    · have hj := List.mem_range.1 hj
      by_cases c : opn s' j 1 = true ∧ (jb l j).dl ≤ (jb l i).dl
      · rw [if_pos c, if_pos ⟨hsub j hj c.1, c.2⟩]
        have := hran j
        unfold need
        split at this <;> omega
      · rw [if_neg c]
        split <;> omega
    · rw [if_pos (c := opn s i0 1 = true ∧ (jb l i0).dl ≤ (jb l i).dl) ⟨ho0, h2⟩]
      have := hran i0
      rw [if_pos rfl] at this
      have e : need l s' i0 = need l s i0 - 1 := by unfold need; omega
      split <;> omega
  omega

theorem doneAt_keep {tr : List Int} {i : Nat} {at_ : Int} (x : Int) (h : doneAt l tr i = (at_, true)) : doneAt l (tr ++ [x]) i = (at_, true) := doneGo_append _ _ _ _ _ h

/-- Nobody runs. -/
theorem Inv.idle (h : Inv l A t s) : Inv l A (t + 1) { s with tr := s.tr ++ [-1] } := by
  have hc : ∀ i : Nat, (s.tr ++ [-1]).count (i : Int) = s.tr.count (i : Int) := fun i => by
    rw [List.count_append, List.count_singleton, if_neg (by simp only [beq_iff_eq]; omega)]; rfl
  refine ⟨h.lis, h.lran, h.lfa, h.len, h.ok, by simp [h.tlen], h.tok.snoc _ (.inl rfl), fun i hi => by rw [hc]; exact h.cnt i hi, h.new, h.old, h.soft, h.waits, ?_, ?_, h.shed, h.ref, h.kinds⟩
  · intro i hi hk
    obtain ⟨a, b, c, d⟩ := h.met i hi hk
    exact ⟨a, b, doneAt_keep _ c, d⟩
  · intro i hi hk
    obtain ⟨a, b, c, d⟩ := h.abo i hi hk
    exact ⟨a, b, doneAt_keep _ c, d⟩

/-- Job i runs at tick t; 'fa' is what is said then. -/
theorem Inv.ran1 (h : Inv l A t s) {i : Nat} (hi : i < l.length) (ho : opn s i 1 = true) (hA : A i = true) (hrel : (jb l i).rel ≤ t) (hdl : (t : Int) < (jb l i).dl) (fa : List (Int × Int)) (hlf : fa.length = l.length)
    (hfa : ∀ j, j ≠ i → fa.getD j (0, 0) = s.fa.getD j (0, 0))
    (hi' : (fa.getD i (0, 0) = (0, 0) ∧ ranAt s i + 1 < (jb l i).work) ∨ (fa.getD i (0, 0) = (1, (t : Int) + 1) ∧ ranAt s i + 1 = (jb l i).work ∧ (jb l i).runs = true) ∨ (fa.getD i (0, 0) = (2, (t : Int) + 1) ∧ ranAt s i + 1 = (jb l i).work ∧ (jb l i).runs = false)) :
    Inv l A (t + 1) { s with tr := s.tr ++ [(i : Int)], ran := s.ran.set i (ranAt s i + 1), fa := fa } := by
  rw [opn_iff] at ho
  have hc : ∀ j : Nat, (s.tr ++ [(i : Int)]).count (j : Int) = s.tr.count (j : Int) + if j = i then 1 else 0 := fun j => by
    rw [List.count_append, List.count_singleton]
    by_cases e : j = i
    · subst e; simp
    · rw [if_neg (by simp only [beq_iff_eq]; omega), if_neg e]
  have hr : ∀ j, ranAt { s with tr := s.tr ++ [(i : Int)], ran := s.ran.set i (ranAt s i + 1), fa := fa } j = if j = i then ranAt s i + 1 else ranAt s j := fun j => by
    show (s.ran.set i (ranAt s i + 1)).getD j 0 = _
    rw [getD_set_eq]
    by_cases e : i = j
    · subst e; rw [if_pos ⟨rfl, by rw [h.lran]; exact hi⟩, if_pos rfl]
    · rw [if_neg (fun h => e h.1), if_neg (Ne.symm e)]; rfl
  have kd : ∀ j, j ≠ i → kindAt { s with tr := s.tr ++ [(i : Int)], ran := s.ran.set i (ranAt s i + 1), fa := fa } j = kindAt s j := fun j e => by
    show (fa.getD j (0, 0)).1 = _; rw [hfa j e]; rfl
  have hcnt := h.cnt i hi
  have hw := h.waits i hi ho.2
  have hdone : ranAt s i + 1 = (jb l i).work → doneAt l (s.tr ++ [(i : Int)]) i = ((t : Int) + 1, true) := fun hh => by
    unfold doneAt
    rw [doneGo_snoc _ _ _ _ (by show _ = (jb l i).work; omega), h.tlen]; simp
  have kdi : ∀ q : Int × Int, fa.getD i (0, 0) = q → kindAt { s with tr := s.tr ++ [(i : Int)], ran := s.ran.set i (ranAt s i + 1), fa := fa } i = q.1 := fun q e => by show (fa.getD i (0, 0)).1 = _; rw [e]
  refine ⟨h.lis, by simpa using h.lran, hlf, h.len, h.ok, by simp [h.tlen], h.tok.snoc _ (.inr ⟨i, hi, rfl, by rw [h.tlen]; exact hrel, by rw [h.tlen]; exact hdl, by show _ < (jb l i).work; omega⟩), fun j hj => ?_, ?_, h.old, h.soft, ?_, ?_, ?_, ?_, ?_, ?_⟩
  · have := h.cnt j hj
    rw [hr]
    show _ = (((s.tr ++ [(i : Int)]).count (j : Int) : Nat) : Int)
    rw [hc]
    split
    · rename_i e; subst e; omega
    · omega
  · intro j hj ha
    have e : j ≠ i := by rintro rfl; rw [hA] at ha; cases ha
    obtain ⟨a, b, c⟩ := h.new j hj ha
    exact ⟨a, by rw [kd j e]; exact b, by rw [hr, if_neg e]; exact c⟩
  · intro j hj hk
    rw [hr]
    by_cases e : j = i
    · subst e
      rw [if_pos rfl]
      rcases hi' with ⟨a, b⟩ | ⟨a, b, c⟩ | ⟨a, b, c⟩
      · exact b
      · rw [kdi _ a] at hk; cases hk
      · rw [kdi _ a] at hk; cases hk
    · rw [if_neg e]; rw [kd j e] at hk; exact h.waits j hj hk
  · intro j hj hk
    rw [hr]
    by_cases e : j = i
    · subst e
      rw [if_pos rfl]
      rcases hi' with ⟨a, b⟩ | ⟨a, b, c⟩ | ⟨a, b, c⟩
      · rw [kdi _ a] at hk; cases hk
      · show _ ∧ _ ∧ _ = ((fa.getD j (0, 0)).2, true) ∧ (fa.getD j (0, 0)).2 ≤ _
        rw [a]
        exact ⟨c, b, hdone b, by show (t : Int) + 1 ≤ _; omega⟩
      · rw [kdi _ a] at hk; cases hk
    · rw [if_neg e]; rw [kd j e] at hk
      obtain ⟨a, b, c, d⟩ := h.met j hj hk
      show _ ∧ _ ∧ _ = ((fa.getD j (0, 0)).2, true) ∧ (fa.getD j (0, 0)).2 ≤ _
      rw [hfa j e]
      exact ⟨a, b, doneAt_keep _ c, d⟩
  · intro j hj hk
    rw [hr]
    by_cases e : j = i
    · subst e
      rw [if_pos rfl]
      rcases hi' with ⟨a, b⟩ | ⟨a, b, c⟩ | ⟨a, b, c⟩
      · rw [kdi _ a] at hk; cases hk
      · rw [kdi _ a] at hk; cases hk
      · show _ ∧ _ ∧ _ = ((fa.getD j (0, 0)).2, true) ∧ (fa.getD j (0, 0)).2 ≤ _
        rw [a]
        exact ⟨c, b, hdone b, by show (t : Int) + 1 ≤ _; omega⟩
    · rw [if_neg e]; rw [kd j e] at hk
      obtain ⟨a, b, c, d⟩ := h.abo j hj hk
      show _ ∧ _ ∧ _ = ((fa.getD j (0, 0)).2, true) ∧ (fa.getD j (0, 0)).2 ≤ _
      rw [hfa j e]
      exact ⟨a, b, doneAt_keep _ c, d⟩
  · intro j hj hk
    by_cases e : j = i
    · subst e
      rcases hi' with ⟨a, b⟩ | ⟨a, b, c⟩ | ⟨a, b, c⟩ <;> (rw [kdi _ a] at hk; cases hk)
    · rw [hr, if_neg e]; rw [kd j e] at hk; exact h.shed j hj hk
  · intro j hj hk
    by_cases e : j = i
    · subst e
      rcases hi' with ⟨a, b⟩ | ⟨a, b, c⟩ | ⟨a, b, c⟩ <;> (rw [kdi _ a] at hk; cases hk)
    · rw [hr, if_neg e]; rw [kd j e] at hk
      show _ ∧ _ ∧ (fa.getD j (0, 0)).2 = _
      rw [hfa j e]
      exact h.ref j hj hk
  · intro j hj
    by_cases e : j = i
    · subst e
      rcases hi' with ⟨a, b⟩ | ⟨a, b, c⟩ | ⟨a, b, c⟩ <;> (rw [kdi _ a]; simp)
    · rw [kd j e]; exact h.kinds j hj

theorem again1_spec (h : Inv l A (t + 1) s) (hf : fits l s (t + 1) = true) (ht : t < 10000) {i : Nat} (hi : i < l.length) (hh : (jb l i).hard = false) (hA : A i = true) (hk3 : kindAt s i ≠ 3) :
    Inv l A (t + 1) (again1 l t s i) ∧ fits l (again1 l t s i) (t + 1) = true ∧ (again1 l t s i).fa = s.fa := by
  have hil : i < s.is.length := by rw [h.lis]; exact hi
  unfold again1
  split
  · rename_i hc
    refine ⟨h.setIs (by simp) (fun _ _ h => h) (fun j hj ha => ?_) (fun j hj ha => ?_) (fun j hj h2 => ?_) (fun j hj hk => ?_), hc, rfl⟩
    · rw [getD_set_eq, if_neg (fun hh => by rw [hh.1.symm] at ha; rw [hA] at ha; cases ha)]; rfl
    · rw [getD_set_eq]
      split
      · exact .inl rfl
      · exact h.old j hj ha
    · rw [getD_set_eq] at h2
      split at h2
      · cases h2
      · exact h.soft j hj h2
    · rw [getD_set_eq, if_neg (fun hh => by rw [hh.1] at hk3; exact hk3 hk)]; exact (h.shed j hj hk).1
  · have isN : ∀ j, ((s.is.set i 1).set i 2).getD j 0 = if j = i then 2 else isAt s j := fun j => by
      rw [getD_set_eq, getD_set_eq]
      by_cases e : i = j
      · subst e; simp [hil]
      · simp [e, Ne.symm e, isAt]
    have h3 : Inv l A (t + 1) { s with is := (s.is.set i 1).set i 2 } := by
      refine h.setIs (by simp) (fun _ _ h => h) (fun j hj ha => ?_) (fun j hj ha => ?_) (fun j hj h2 => ?_) (fun j hj hk => ?_)
      · rw [isN, if_neg (by rintro rfl; rw [hA] at ha; cases ha)]
      · rw [isN]
        split
        · exact .inr rfl
        · exact h.old j hj ha
      · rw [isN] at h2
        split at h2
        · rename_i e; rw [e]; exact hh
        · exact h.soft j hj h2
      · rw [isN]
        split
        · rfl
        · exact (h.shed j hj hk).1
    refine ⟨h3, fits_mono h.bd h3.bd (by omega) (by omega) (fun j hj ho => ?_) hf, rfl⟩
    rw [opn_iff] at ho ⊢
    obtain ⟨o1, o2⟩ := ho
    replace o1 : ((s.is.set i 1).set i 2).getD j 0 = 1 := o1
    rw [isN] at o1
    split at o1
    · cases o1
    · exact ⟨⟨o1, o2⟩, Int.le_refl _⟩
theorem again_spec (h : Inv l A (t + 1) s) (hf : fits l s (t + 1) = true) (ht : t < 10000) (hA : ∀ i, i < l.length → isAt s i = 2 → A i = true) :
    Inv l A (t + 1) (again l t s) ∧ fits l (again l t s) (t + 1) = true := by
  unfold again
  have hm : ∀ i ∈ againList l s, i < l.length ∧ (jb l i).hard = false ∧ A i = true ∧ kindAt s i ≠ 3 := by
    intro i hi
    have := (isort_perm _ _).mem_iff.1 hi
    simp only [List.mem_filter, List.mem_range] at this
    obtain ⟨h1, h2⟩ := this
    rw [opn_iff] at h2
    exact ⟨h1, h.soft i h1 h2.1, hA i h1 h2.1, by omega⟩
  generalize againList l s = r at hm ⊢
  have hfa : ∀ (s' : RS), s'.fa = s.fa → ∀ i, kindAt s' i = kindAt s i := fun s' e i => by unfold kindAt; rw [e]
  clear hA
  have : ∀ (r : List Nat) (s' : RS), (∀ i ∈ r, i < l.length ∧ (jb l i).hard = false ∧ A i = true ∧ kindAt s i ≠ 3) → s'.fa = s.fa → Inv l A (t + 1) s' → fits l s' (t + 1) = true → Inv l A (t + 1) (r.foldl (again1 l t) s') ∧ fits l (r.foldl (again1 l t) s') (t + 1) = true := by
    intro r
    induction r with
    | nil => intro s' _ _ h1 h2; exact ⟨h1, h2⟩
    | cons i r ih =>
      intro s' hm e h1 h2
      obtain ⟨m1, m2, m3, m4⟩ := hm i (by simp)
      obtain ⟨g1, g2, g3⟩ := again1_spec h1 h2 ht m1 m2 m3 (by rw [hfa s' e]; exact m4)
      rw [List.foldl_cons]
      exact ih (again1 l t s' i) (fun j hj => hm j (List.mem_cons_of_mem _ hj)) (g3.trans e) g1 g2
  exact this r s hm rfl h hf

theorem runTick_spec (h : Inv l A t s) (hf : fits l s t = true) (ht : t < 10000) (hA : ∀ i, i < l.length → (A i = true ↔ (jb l i).rel ≤ t)) :
    Inv l A (t + 1) (runTick l t s) ∧ fits l (runTick l t s) (t + 1) = true := by
  obtain ⟨b1, b2, b3, b4⟩ := head_spec l s
  unfold runTick
  split
  · rename_i e
    have h2 := h.idle
    rw [e]
    refine ⟨h2, ?_⟩
    rw [fits_iff h2.bd _ (by omega) (by omega)]
    intro i hi ho
    have := b4 (by omega) i hi
    have h3 : opn s i 1 = true := ho
    rw [this] at h3; cases h3
  · rename_i e
    obtain ⟨c1, c2⟩ := b3 (by omega)
    obtain ⟨i, hi⟩ : ∃ i : Nat, head l s = i := ⟨(head l s).toNat, by omega⟩
    rw [hi] at b2 c1 c2 ⊢
    simp only [Int.toNat_natCast] at c1 c2 ⊢
    have hil : i < l.length := by omega
    have ho := opn_iff.1 c1
    have hAi : A i = true := by
      cases e2 : A i with
      | true => rfl
      | false => have := (h.new i hil e2).1; omega
    have hrel := (hA i hil).1 hAi
    have hw := h.waits i hil ho.2
    have hok := jb_ok h.ok hil
    have hwl := hok.work_le
    have hneed : 1 ≤ need l s i := by unfold need; omega
    have hfi := (fits_iff h.bd (t : Int) (by omega) (by omega)).1 hf i hil c1
    have hge : need l s i ≤ load l s (jb l i).dl := by
      have := sum_map_ge (List.range l.length) (fun j => if opn s j 1 = true ∧ (jb l j).dl ≤ (jb l i).dl then max (need l s j) 0 else 0) i (by simpa using hil) (fun j _ => by split <;> omega)
      rw [if_pos ⟨c1, Int.le_refl _⟩] at this
      unfold load; omega
    have hdl : (t : Int) < (jb l i).dl := by omega
    have hfa0 : s.fa.getD i (0, 0) = (0, 0) ∨ True := .inr trivial
    have hil' : i < s.fa.length := by rw [h.lfa]; exact hil
    have hmin : ∀ j, j < l.length → opn s j 1 = true → (jb l i).dl ≤ (jb l j).dl := fun j hj hoj => by have := c2 j hj hoj; omega
    -- the states that may come of it
    have hr1 : ranAt { s with tr := s.tr ++ [(i : Int)], ran := s.ran.set i (ranAt s i + 1) } i = ranAt s i + 1 := by
      show (s.ran.set i (ranAt s i + 1)).getD i 0 = _
      rw [getD_set_eq, if_pos ⟨rfl, by rw [h.lran]; exact hil⟩]
    have hrr : ∀ (s' : RS), s'.ran = s.ran.set i (ranAt s i + 1) → ∀ j, ranAt s' j = if j = i then ranAt s j + 1 else ranAt s j := fun s' e j => by
      unfold ranAt; rw [e, getD_set_eq]
      by_cases e3 : i = j
      · subst e3; rw [if_pos ⟨rfl, by rw [h.lran]; exact hil⟩, if_pos rfl]; rfl
      · rw [if_neg (fun h => e3 h.1), if_neg (Ne.symm e3)]
    unfold runAt
    simp only []
    rw [show ranAt { s with tr := s.tr ++ [(i : Int)] } i = ranAt s i from rfl]
    rw [hr1]
    split
    · rename_i hlt
      -- what is said of a waiting job: nothing, but its tick may be any: it is (0, at)
      have h2 : Inv l A (t + 1) { s with tr := s.tr ++ [(i : Int)], ran := s.ran.set i (ranAt s i + 1) } := by
        have hc : ∀ j : Nat, (s.tr ++ [(i : Int)]).count (j : Int) = s.tr.count (j : Int) + if j = i then 1 else 0 := fun j => by
          rw [List.count_append, List.count_singleton]
          by_cases e : j = i
          · subst e; simp
          · rw [if_neg (by simp only [beq_iff_eq]; omega), if_neg e]
        have hr := hrr { s with tr := s.tr ++ [(i : Int)], ran := s.ran.set i (ranAt s i + 1) } rfl
        have hcnt := h.cnt i hil
        refine ⟨h.lis, by simpa using h.lran, h.lfa, h.len, h.ok, by simp [h.tlen], h.tok.snoc _ (.inr ⟨i, hil, rfl, by rw [h.tlen]; exact hrel, by rw [h.tlen]; exact hdl, by show _ < (jb l i).work; omega⟩), fun j hj => ?_, ?_, h.old, h.soft, ?_, ?_, ?_, ?_, ?_, h.kinds⟩
        · have := h.cnt j hj
          rw [hr]
          show _ = (((s.tr ++ [(i : Int)]).count (j : Int) : Nat) : Int)
          rw [hc]
          split <;> omega
        · intro j hj ha
          have e : j ≠ i := by rintro rfl; rw [hAi] at ha; cases ha
          obtain ⟨a, b, c⟩ := h.new j hj ha
          exact ⟨a, b, by rw [hr, if_neg e]; exact c⟩
        · intro j hj hk
          rw [hr]
          split
          · rename_i e; subst e; exact hlt
          · exact h.waits j hj hk
        · intro j hj hk
          have e : j ≠ i := by rintro rfl; have hk' : kindAt s j = 1 := hk; omega
          obtain ⟨a, b, c, d⟩ := h.met j hj hk
          rw [hr, if_neg e]
          exact ⟨a, b, doneAt_keep _ c, d⟩
        · intro j hj hk
          have e : j ≠ i := by rintro rfl; have hk' : kindAt s j = 2 := hk; omega
          obtain ⟨a, b, c, d⟩ := h.abo j hj hk
          rw [hr, if_neg e]
          exact ⟨a, b, doneAt_keep _ c, d⟩
        · intro j hj hk
          have e : j ≠ i := by rintro rfl; have hk' : kindAt s j = 3 := hk; omega
          rw [hr, if_neg e]; exact h.shed j hj hk
        · intro j hj hk
          have e : j ≠ i := by rintro rfl; have hk' : kindAt s j = 4 := hk; omega
          rw [hr, if_neg e]; exact h.ref j hj hk
      exact ⟨h2, edf_step h.bd h2.bd hil (by omega) hf c1 hmin hneed (fun j _ ho => ho) (hrr _ rfl)⟩
    · rename_i hge2
      have hwk : ranAt s i + 1 = (jb l i).work := by omega
      have hset : ∀ k : Int, ∀ j, (s.fa.set i (k, (t : Int) + 1)).getD j (0, 0) = if j = i then (k, (t : Int) + 1) else s.fa.getD j (0, 0) := fun k j => by
        rw [getD_set_eq]
        by_cases e3 : i = j
        · subst e3; rw [if_pos ⟨rfl, hil'⟩, if_pos rfl]
        · rw [if_neg (fun h => e3 h.1), if_neg (Ne.symm e3)]
      have hopn : ∀ (s' : RS) (k : Int), k ≠ 0 → s'.is = s.is → s'.fa = s.fa.set i (k, (t : Int) + 1) → ∀ j, opn s' j 1 = true → opn s j 1 = true := fun s' k hk0 e1 e2 j ho => by
        rw [opn_iff] at ho ⊢
        obtain ⟨o1, o2⟩ := ho
        unfold isAt at o1
        unfold kindAt at o2
        rw [e1] at o1
        rw [e2, hset] at o2
        split at o2
        · exact absurd o2 hk0
        · exact ⟨o1, o2⟩
      split
      · rename_i hnr
        have h2 : Inv l A (t + 1) (say { s with tr := s.tr ++ [(i : Int)], ran := s.ran.set i (ranAt s i + 1) } i 2 (t + 1)) :=
          h.ran1 hil c1 hAi hrel hdl (s.fa.set i (2, (t : Int) + 1)) (by simpa using h.lfa) (fun j hj => by rw [hset, if_neg hj]) (.inr (.inr ⟨by rw [hset, if_pos rfl], hwk, by simpa using hnr⟩))
        exact ⟨h2, edf_step h.bd h2.bd hil (by omega) hf c1 hmin hneed (fun j _ ho => hopn (say { s with tr := s.tr ++ [(i : Int)], ran := s.ran.set i (ranAt s i + 1) } i 2 (t + 1)) 2 (by omega) rfl rfl j ho) (hrr _ rfl)⟩
      · rename_i hnr
        have h2 : Inv l A (t + 1) (say { s with tr := s.tr ++ [(i : Int)], ran := s.ran.set i (ranAt s i + 1) } i 1 (t + 1)) :=
          h.ran1 hil c1 hAi hrel hdl (s.fa.set i (1, (t : Int) + 1)) (by simpa using h.lfa) (fun j hj => by rw [hset, if_neg hj]) (.inr (.inl ⟨by rw [hset, if_pos rfl], hwk, by simpa using hnr⟩))
        have h3 := edf_step h.bd h2.bd hil (by omega) hf c1 hmin hneed (fun j _ ho => hopn (say { s with tr := s.tr ++ [(i : Int)], ran := s.ran.set i (ranAt s i + 1) } i 1 (t + 1)) 1 (by omega) rfl rfl j ho) (hrr _ rfl)
        split
        · refine again_spec h2 h3 ht (fun j hj h2' => ?_)
          cases e3 : A j with
          | true => rfl
          | false => have h9 := (h.new j hj e3).1; have h10 : isAt s j = 2 := h2'; omega
        · exact ⟨h2, h3⟩

theorem tick_spec (h : Inv l (fun i => decide ((jb l i).rel < t)) t s) (hf : fits l s t = true) (ht : t < 10000) :
    Inv l (fun i => decide ((jb l i).rel < t + 1)) (t + 1) (tick l s t) ∧ fits l (tick l s t) (t + 1) = true := by
  obtain ⟨h1, h2⟩ := late_spec h hf (by omega)
  obtain ⟨h3, h4⟩ := arrivals_spec h1 h2 (by omega)
  exact runTick_spec h3 h4 ht (fun i hi => by simp only [decide_eq_true_eq]; omega)

/-- THE PLAIN LAW. -/
theorem hard_law (hok : ∀ j ∈ l, j.Ok) (hlen : l.length ≤ 200) :
    (run l).fa.length = l.length ∧ traceOk l (run l).tr = true ∧ ∀ i, i < l.length →
      (((run l).fa.getD i (0, 0)).1 = 1 ∧ (jb l i).runs = true ∧ doneAt l (run l).tr i = (((run l).fa.getD i (0, 0)).2, true) ∧ ((run l).fa.getD i (0, 0)).2 ≤ (jb l i).dl) ∨
      (((run l).fa.getD i (0, 0)).1 = 2 ∧ (jb l i).runs = false ∧ doneAt l (run l).tr i = (((run l).fa.getD i (0, 0)).2, true) ∧ ((run l).fa.getD i (0, 0)).2 ≤ (jb l i).dl) ∨
      (((run l).fa.getD i (0, 0)).1 = 3 ∧ (jb l i).hard = false ∧ (doneAt l (run l).tr i).2 = false) ∨
      (((run l).fa.getD i (0, 0)).1 = 4 ∧ (jb l i).hard = true ∧ ranIn (run l).tr i = 0 ∧ ((run l).fa.getD i (0, 0)).2 = (jb l i).rel) := by
  have hend0 := endOf_nonneg l
  have hend1 : endOf l ≤ 10000 := endOf_le (by omega) fun j hj => (hok j hj).dl1
  have rep : ∀ i (a : Int), (List.replicate l.length a).getD i a = a := fun i a => by
    rw [List.getD_eq_getElem?_getD, List.getElem?_replicate]; split <;> rfl
  have rep2 : ∀ i, (List.replicate l.length ((0 : Int), (0 : Int))).getD i (0, 0) = (0, 0) := fun i => by
    rw [List.getD_eq_getElem?_getD, List.getElem?_replicate]; split <;> rfl
  have h0 : Inv l (fun i => decide ((jb l i).rel < (0 : Nat))) 0 (start l) := by
    have k0 : ∀ i, kindAt (start l) i = 0 := fun i => by show ((List.replicate l.length ((0 : Int), (0 : Int))).getD i (0, 0)).1 = 0; rw [rep2]
    have i0 : ∀ i, isAt (start l) i = 0 := fun i => rep i 0
    have r0 : ∀ i, ranAt (start l) i = 0 := fun i => rep i 0
    refine ⟨by simp [start], by simp [start], by simp [start], hlen, hok, rfl, TOk.nil l, fun i hi => by rw [r0]; rfl, fun i hi _ => ⟨i0 i, k0 i, r0 i⟩, fun i hi h => ?_, fun i hi h => ?_, fun i hi _ => ?_, fun i hi h => ?_, fun i hi h => ?_, fun i hi h => ?_, fun i hi h => ?_, fun i hi => by rw [k0]; omega⟩
    · have := (jb_ok hok hi).rel0
      simp only [decide_eq_true_eq] at h; omega
    · rw [i0] at h; cases h
    · rw [r0]; exact (jb_ok hok hi).work0
    · rw [k0] at h; cases h
    · rw [k0] at h; cases h
    · rw [k0] at h; cases h
    · rw [k0] at h; cases h
  have hf0 : fits l (start l) (0 : Nat) = true := by
    rw [fits_iff h0.bd _ (by omega) (by omega)]
    intro i hi ho
    have := (opn_iff.1 ho).1
    rw [show isAt (start l) i = 0 from rep i 0] at this; cases this
  have hrun := foldl_range_inv (tick l) (endOf l).toNat (fun t s => Inv l (fun i => decide ((jb l i).rel < t)) t s ∧ fits l s t = true) (start l) ⟨h0, hf0⟩ (fun t s ht ⟨h1, h2⟩ => by
    have := tick_spec h1 h2 (by omega)
    exact ⟨by simpa using this.1, by simpa using this.2⟩)
  obtain ⟨h1, h2⟩ := hrun
  unfold run
  generalize (List.range (endOf l).toNat).foldl (tick l) (start l) = s at h1 h2 ⊢
  obtain ⟨h3, h4, h5, h6⟩ := last_spec h1 (endOf l)
  generalize (List.range l.length).foldl (last1 (endOf l)) s = z at h3 h4 h5 h6 ⊢
  refine ⟨h3.lfa, traceOk_of h3.tok (by rw [h3.tlen]; omega), fun i hi => ?_⟩
  have hk := h3.kinds i hi
  have hok' := jb_ok hok hi
  rcases (by omega : kindAt z i = 0 ∨ kindAt z i = 1 ∨ kindAt z i = 2 ∨ kindAt z i = 3 ∨ kindAt z i = 4) with e | e | e | e | e
  · exfalso
    have hA := h3.old i hi (by
      have := hok'.rel1
      have := endOf_ge (jb_mem hi)
      simp only [decide_eq_true_eq]; omega)
    rcases hA with hA | hA
    · have ho := h5 i (opn_iff.2 ⟨hA, e⟩)
      have hfi := (fits_iff h1.bd _ (by omega) (by omega)).1 h2 i hi ho
      have hge : need l s i ≤ load l s (jb l i).dl := by
        have := sum_map_ge (List.range l.length) (fun j => if opn s j 1 = true ∧ (jb l j).dl ≤ (jb l i).dl then max (need l s j) 0 else 0) i (by simpa using hi) (fun j _ => by split <;> omega)
        rw [if_pos ⟨ho, Int.le_refl _⟩] at this
        unfold load; omega
      have hw := h1.waits i hi (opn_iff.1 ho).2
      have := hok'.work_le
      have := endOf_ge (jb_mem hi)
      unfold need at hge
      omega
    · have := h4 i hi
      rw [opn_iff.2 ⟨hA, e⟩] at this; cases this
  · exact .inl ⟨e, (h3.met i hi e).1, (h3.met i hi e).2.2⟩
  · exact .inr (.inl ⟨e, (h3.abo i hi e).1, (h3.abo i hi e).2.2⟩)
  · refine .inr (.inr (.inl ⟨e, h3.soft i hi (h3.shed i hi e).1, ?_⟩))
    have h7 := (h3.shed i hi e).2
    rw [h3.cnt i hi] at h7
    show (doneGo i (jb l i).work 0 z.tr).2 = false
    rw [doneGo_none _ _ _ _ h7]
  · obtain ⟨a, b, c⟩ := h3.ref i hi e
    refine .inr (.inr (.inr ⟨e, a, ?_, c⟩))
    rw [h3.cnt i hi] at b
    exact b
end Rob
end Go.Proofs.YtjgegnjclmkpeaaDoor
