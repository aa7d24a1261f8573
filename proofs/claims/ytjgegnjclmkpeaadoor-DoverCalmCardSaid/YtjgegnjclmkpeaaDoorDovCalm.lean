/- Plain: where the earliest deadline first meets all charges no alarm of the Dover scheduler rings, and it runs just so. No program in sight. -/
import Derived.Test.YtjgegnjclmkpeaaDoorDovModel
import Derived.Test.YtjgegnjclmkpeaaDoorRobCalmPlain
namespace Go.Proofs.YtjgegnjclmkpeaaDoor
namespace Dov
open Rob (jb jb_mem jb_ok byDl edfAt meetsAll pick pickP)
variable {l : List Job} {t : Nat} {s : DS}
/-- What holds at tick t of a calm run. -/
structure Calm (l : List Job) (t : Nat) (s : DS) : Prop where
  inv : Inv l t s
  kinds : ∀ i, i < l.length → kindAt s i = 0 ∨ kindAt s i = 1 ∨ kindAt s i = 2
  ran : ∀ i, i < l.length → 0 ≤ ranAt s i ∧ ranAt s i ≤ (jb l i).work
  waits : ∀ i, i < l.length → (kindAt s i = 0 ↔ ranAt s i < (jb l i).work)
  fresh : ∀ i, i < l.length → t ≤ (jb l i).rel → ranAt s i = 0
  al : s.al = []
  tr : s.tr = (edfAt l Job.work t).2
  left : ∀ i, i < l.length → (edfAt l Job.work t).1.getD i 0 = (jb l i).work - ranAt s i
  dem : ∀ d : Nat, ∃ a : Nat, a ≤ t ∧ (∀ i, i < l.length → (jb l i).rel < a → (jb l i).dl ≤ d → kindAt s i ≠ 0) ∧
    ((List.range l.length).map fun i => if (a : Int) ≤ (jb l i).rel ∧ (jb l i).dl ≤ d then ranAt s i else 0).sum = (t : Int) - a
/-- What those that are live need up to a deadline. -/
def load (l : List Job) (s : DS) (t : Int) (d : Int) : Int := ((List.range l.length).map fun i => if live l s t i = true ∧ (jb l i).dl ≤ d then (jb l i).charge - ranAt s i else 0).sum
theorem calm_load (hok : ∀ j ∈ l, j.Ok) (hm : meetsAll l) (h : Calm l t s) {i : Nat} (hi : i < l.length) (ho : live l s t i = true) : load l s t (jb l i).dl ≤ (jb l i).dl - t := by
  obtain ⟨ho1, ho2⟩ := live_iff.1 ho
  have hj := jb_ok hok hi
  obtain ⟨d, hd⟩ : ∃ d : Nat, (jb l i).dl = d := ⟨(jb l i).dl.toNat, by have := hj.rel0; have := hj.rel1; omega⟩
  obtain ⟨a, ha, h1, h2⟩ := h.dem d
  have hra : (a : Int) ≤ (jb l i).rel := by
    rcases Int.lt_or_le (jb l i).rel a with hlt | hle
    · exact absurd ho2 (h1 i hi hlt (by omega))
    · exact hle
  have hdem := Rob.demand hm a d (by have := hj.rel1; omega)
  have hle : load l s t (jb l i).dl ≤ ((List.range l.length).map fun j => (if (a : Int) ≤ (jb l j).rel ∧ (jb l j).dl ≤ d then (jb l j).charge else 0) - (if (a : Int) ≤ (jb l j).rel ∧ (jb l j).dl ≤ d then ranAt s j else 0)).sum := by
    unfold load
    refine sum_map_le _ _ _ fun j hj => ?_
    have hjl := List.mem_range.1 hj
    have hjo := jb_ok hok hjl
    have hjr := h.ran j hjl
    have hjw := hjo.work_le
    by_cases hc : live l s t j = true ∧ (jb l j).dl ≤ (jb l i).dl
    · rw [if_pos hc]
      have hc1 := (live_iff.1 hc.1).2
      have hrj : (a : Int) ≤ (jb l j).rel := by
        rcases Int.lt_or_le (jb l j).rel a with hlt | hle
        · exact absurd hc1 (h1 j hjl hlt (by omega))
        · exact hle
      rw [if_pos ⟨hrj, by omega⟩, if_pos ⟨hrj, by omega⟩]
      omega
    · rw [if_neg hc]
      split <;> omega
  rw [Rob.sum_sub] at hle
  omega
theorem need_pos (hok : ∀ j ∈ l, j.Ok) (h : Calm l t s) {i : Nat} (hi : i < l.length) (ho : live l s t i = true) : 1 ≤ (jb l i).charge - ranAt s i := by
  have := (h.waits i hi).1 (live_iff.1 ho).2
  have := (jb_ok hok hi).work_le
  omega
theorem load_term (hok : ∀ j ∈ l, j.Ok) (h : Calm l t s) (d : Int) : ∀ i ∈ List.range l.length, 0 ≤ (if live l s t i = true ∧ (jb l i).dl ≤ d then (jb l i).charge - ranAt s i else 0) := fun i hi => by
  split
  · rename_i hc
    have := need_pos hok h (List.mem_range.1 hi) hc.1
    omega
  · omega
/-- Nobody is late. -/
theorem calm_dl (hok : ∀ j ∈ l, j.Ok) (hm : meetsAll l) (h : Calm l t s) {i : Nat} (hi : i < l.length) (ho : live l s t i = true) : (jb l i).charge - ranAt s i ≤ (jb l i).dl - t := by
  have h1 := calm_load hok hm h hi ho
  have h2 := sum_map_ge (List.range l.length) _ i (List.mem_range.2 hi) (load_term hok h (jb l i).dl)
  rw [if_pos ⟨ho, Int.le_refl _⟩] at h2
  unfold load at h1
  omega
theorem sum_two {α : Type} [DecidableEq α] (r : List α) (f : α → Int) (x y : α) (hx : x ∈ r) (hy : y ∈ r) (hne : x ≠ y) (h : ∀ i ∈ r, 0 ≤ f i) : f x + f y ≤ (r.map f).sum := by
  have h1 := Rob.sum_sub r f (fun i => if i = y then f y else 0)
  have h2 := sum_map_ge r (fun i => f i - (if i = y then f y else 0)) x hx (fun i hi => by
    have := h i hi
    show 0 ≤ f i - (if i = y then f y else 0)
    split
    · rename_i e; subst e; omega
    · omega)
  have h3 := sum_map_ge r (fun i => if i = y then f y else 0) y hy (fun i hi => by
    have := h y hy
    show 0 ≤ (if i = y then f y else 0)
    split <;> omega)
  simp only [if_neg hne, if_true] at h2 h3
  omega
theorem expire_calm (hok : ∀ j ∈ l, j.Ok) (hm : meetsAll l) (h : Calm l t s) : expire l t s = s := by
  unfold expire
  refine Rob.foldl_same _ _ _ fun i hi => ?_
  have hi' := List.mem_range.1 hi
  unfold exp1
  rw [if_neg]
  intro hc
  simp only [Bool.and_eq_true, decide_eq_true_eq] at hc
  have := calm_dl hok hm h hi' hc.1
  have := need_pos hok h hi' hc.1
  omega
theorem ringGo_none {t : Int} : ∀ (r ah : List Nat) (v : Int), (∀ p i q, r = p ++ i :: q → (ah ≠ [] ∨ p ≠ []) → (jb l i).charge - ranAt s i < (jb l i).dl - t) → ringGo l s t r ah v = none
  | [], _, _, _ => rfl
  | k :: r, ah, v, h => by
    unfold ringGo
    split
    · exact ringGo_none r ah v fun p i q e hh => h (k :: p) i q (by rw [e]; rfl) (.inr (by simp))
    · rw [if_neg]
      · exact ringGo_none r _ _ fun p i q e _ => h (k :: p) i q (by rw [e]; rfl) (.inr (by simp))
      · intro hc
        simp only [Bool.and_eq_true, Bool.not_eq_true', List.isEmpty_eq_false_iff, decide_eq_true_eq] at hc
        have := h [] k r rfl (.inl hc.1)
        omega
theorem ring_calm (hok : ∀ j ∈ l, j.Ok) (hm : meetsAll l) (h : Calm l t s) (p q : Int) : ring l p q t s = none := by
  unfold ring
  rw [ringGo_none, Option.map_none]
  intro a i b e hne
  rcases hne with hne | hne
  · exact absurd rfl hne
  obtain ⟨k, hk⟩ := List.exists_mem_of_ne_nil a hne
  have hs : (lives l s t).Pairwise (Rob.ahead l) := List.Pairwise.filter _ (Rob.byDl_sorted l)
  rw [e, List.pairwise_append] at hs
  have hah := hs.2.2 k hk i (by simp)
  have hi := lives_mem.1 (show i ∈ lives l s t by rw [e]; simp)
  have hkm := lives_mem.1 (show k ∈ lives l s t by rw [e]; simp [hk])
  have hlv := live_iff.2 hi.2
  have hkv := live_iff.2 hkm.2
  have h1 := calm_load hok hm h hi.1 hlv
  unfold Rob.ahead at hah
  have h2 := sum_two (List.range l.length) _ i k (List.mem_range.2 hi.1) (List.mem_range.2 hkm.1) (by rintro rfl; omega) (load_term hok h (jb l i).dl)
  rw [if_pos ⟨hlv, Int.le_refl _⟩, if_pos ⟨hkv, by omega⟩] at h2
  have h3 := need_pos hok h hkm.1 hkv
  unfold load at h1
  omega
theorem lives_head (l : List Job) (s : DS) (t : Int) : (lives l s t).head? = (byDl l).find? (live l s t) := by
  unfold lives; rw [List.head?_filter]
theorem calm_pick (h : Calm l t s) : (lives l s t).head? = pick l (edfAt l Job.work t).1 t := by
  rw [lives_head]
  unfold pick
  have : ∀ r : List Nat, (∀ i ∈ r, i < l.length) → r.find? (live l s t) = r.find? (pickP l (edfAt l Job.work t).1 t) := by
    intro r hr
    induction r with
    | nil => rfl
    | cons i r ih =>
      have hi := hr i (by simp)
      have e : live l s t i = pickP l (edfAt l Job.work t).1 t i := by
        rw [Bool.eq_iff_iff, live_iff]
        simp only [pickP, Bool.and_eq_true, decide_eq_true_eq, h.left i hi]
        have := h.waits i hi
        constructor
        · rintro ⟨a, b⟩; exact ⟨a, by have := this.1 b; omega⟩
        · rintro ⟨a, b⟩; exact ⟨a, this.2 (by omega)⟩
      rw [List.find?_cons, List.find?_cons, e, ih fun j hj => hr j (by simp [hj])]
  exact this _ fun i hi => (Rob.byDl_mem l i).1 hi
theorem zsum (q : List Nat) : (q.map fun _ => (0 : Int)).sum = 0 := by
  induction q with
  | nil => rfl
  | cons a q ih => rw [List.map_cons, List.sum_cons, ih]; rfl
theorem calm_start (hok : ∀ j ∈ l, j.Ok) (hlen : l.length ≤ 200) : Calm l 0 (start l) := by
  have rep : ∀ i (a : Int), (List.replicate l.length a).getD i a = a := fun i a => by
    rw [List.getD_eq_getElem?_getD, List.getElem?_replicate]; split <;> rfl
  have rep2 : ∀ i, (List.replicate l.length ((0 : Int), (0 : Int))).getD i (0, 0) = (0, 0) := fun i => by
    rw [List.getD_eq_getElem?_getD, List.getElem?_replicate]; split <;> rfl
  have r0 : ∀ i, ranAt (start l) i = 0 := fun i => rep i 0
  have k0 : ∀ i, kindAt (start l) i = 0 := fun i => by show ((List.replicate l.length ((0 : Int), (0 : Int))).getD i (0, 0)).1 = 0; rw [rep2]
  refine ⟨inv_start hok hlen, fun i hi => .inl (k0 i), fun i hi => ?_, fun i hi => ?_, fun i hi _ => r0 i, rfl, rfl, fun i hi => ?_, fun d => ⟨0, Nat.le_refl _, fun i hi hr => ?_, ?_⟩⟩
  · rw [r0]; have := (jb_ok hok hi).work0; omega
  · rw [r0, k0]; have := (jb_ok hok hi).work0; exact ⟨fun _ => by omega, fun _ => rfl⟩
  · rw [r0]
    show (l.map Job.work).getD i 0 = _
    simp [jb, List.getD_eq_getElem?_getD, List.getElem?_eq_getElem hi]
  · have := (jb_ok hok hi).rel0; omega
  · rw [show ((List.range l.length).map fun i => if ((0 : Nat) : Int) ≤ (jb l i).rel ∧ (jb l i).dl ≤ d then ranAt (start l) i else 0) = (List.range l.length).map fun _ => (0 : Int) from List.map_congr_left fun i _ => by rw [r0]; simp]
    rw [zsum]; omega
/-- One tick. -/
theorem calm_tick (hok : ∀ j ∈ l, j.Ok) (hm : meetsAll l) (h : Calm l t s) (p q : Int) : Calm l (t + 1) (tick l p q s t) := by
  have hinv := tick_spec p q h.inv
  have hring := rings_none (l.length + 1) (ring_calm hok hm h p q)
  unfold tick at hinv ⊢
  rw [expire_calm hok hm h, hring] at hinv ⊢
  have hE := Rob.einv_at l Job.work t
  have hpick := calm_pick h
  unfold runTick at hinv ⊢
  cases hl : lives l s t with
  | nil =>
    rw [hl] at hinv hpick
    have hp : pick l (edfAt l Job.work t).1 t = none := by rw [← hpick]; rfl
    have hno : ∀ i, i < l.length → (jb l i).rel ≤ t → kindAt s i ≠ 0 := fun i hi hr hk => by
      have : i ∈ lives l s t := lives_mem.2 ⟨hi, hr, hk⟩
      rw [hl] at this; cases this
    have hes : edfAt l Job.work (t + 1) = ((edfAt l Job.work t).1, (edfAt l Job.work t).2 ++ [-1]) := by
      rw [Rob.edfAt_succ]; unfold Rob.edfStep; rw [hp]
    refine ⟨hinv, h.kinds, h.ran, h.waits, fun i hi hr => h.fresh i hi (by omega), h.al, ?_, fun i hi => ?_, fun d => ⟨t + 1, Nat.le_refl _, fun i hi hr _ => ?_, ?_⟩⟩
    · rw [hes]; show s.tr ++ [-1] = _; rw [h.tr]
    · rw [hes]; exact h.left i hi
    · exact hno i hi (by omega)
    · rw [show ((List.range l.length).map fun i => if ((t + 1 : Nat) : Int) ≤ (jb l i).rel ∧ (jb l i).dl ≤ d then ranAt { s with tr := s.tr ++ [-1] } i else 0) = (List.range l.length).map fun _ => (0 : Int) from List.map_congr_left fun i hi => by
        have hi' := List.mem_range.1 hi
        split
        · rename_i hc
          exact h.fresh i hi' (by omega)
        · rfl]
      rw [zsum]; omega
  | cons k r =>
    rw [hl] at hinv hpick
    have hp : pick l (edfAt l Job.work t).1 t = some k := by rw [← hpick]; rfl
    obtain ⟨hk, hrelk, hkk⟩ := lives_mem.1 (show k ∈ lives l s t by rw [hl]; simp)
    have hmin := (Rob.pick_some hp).2.2
    have hes : edfAt l Job.work (t + 1) = ((edfAt l Job.work t).1.set k ((edfAt l Job.work t).1.getD k 0 - 1), (edfAt l Job.work t).2 ++ [(k : Int)]) := by
      rw [Rob.edfAt_succ]; unfold Rob.edfStep; rw [hp]
    have hlr : k < s.ran.length := by rw [h.inv.lran]; exact hk
    have hlf : k < s.fa.length := by rw [h.inv.lfa]; exact hk
    have hwk := (h.waits k hk).1 hkk
    simp only at hinv ⊢
    rw [runAt_eq] at hinv ⊢
    obtain ⟨z, hz⟩ : ∃ z : DS, z = { s with tr := s.tr ++ [(k : Int)], ran := s.ran.set k (ranAt s k + 1), fa := if ranAt s k + 1 < (jb l k).work then s.fa else s.fa.set k (if (jb l k).runs then 1 else 2, (t : Int) + 1) } := ⟨_, rfl⟩
    rw [← hz] at hinv ⊢
    have rz : ∀ i, ranAt z i = if i = k then ranAt s k + 1 else ranAt s i := fun i => by
      rw [hz]
      show (s.ran.set k (ranAt s k + 1)).getD i 0 = _
      rw [getD_set_eq]
      by_cases e : i = k
      · subst e; rw [if_pos ⟨rfl, hlr⟩, if_pos rfl]
      · rw [if_neg (fun hh => e hh.1.symm), if_neg e]; rfl
    have kz : ∀ i, i ≠ k → kindAt z i = kindAt s i := fun i e => by
      rw [hz]
      unfold kindAt
      simp only
      split
      · rfl
      · rw [getD_set_eq, if_neg (fun hh => e hh.1.symm)]
    have kzk : (kindAt z k = 0 ∧ ranAt s k + 1 < (jb l k).work) ∨ ((kindAt z k = 1 ∨ kindAt z k = 2) ∧ ¬ ranAt s k + 1 < (jb l k).work) := by
      rw [hz]
      unfold kindAt
      simp only
      by_cases hc : ranAt s k + 1 < (jb l k).work
      · rw [if_pos hc]; exact .inl ⟨hkk, hc⟩
      · rw [if_neg hc, getD_set_eq, if_pos ⟨rfl, hlf⟩]
        refine .inr ⟨?_, hc⟩
        split
        · exact .inl rfl
        · exact .inr rfl
    refine ⟨hinv, fun i hi => ?_, fun i hi => ?_, fun i hi => ?_, fun i hi hr => ?_, by rw [hz]; exact h.al, ?_, fun i hi => ?_, fun d => ?_⟩
    · by_cases e : i = k
      · subst e
        rcases kzk with h1 | h1
        · exact .inl h1.1
        · exact .inr h1.1
      · rw [kz i e]; exact h.kinds i hi
    · rw [rz]
      have := h.ran i hi
      split
      · rename_i e; subst e; omega
      · exact this
    · rw [rz]
      by_cases e : i = k
      · subst e
        rw [if_pos rfl]
        rcases kzk with h1 | h1
        · exact ⟨fun _ => h1.2, fun _ => h1.1⟩
        · exact ⟨fun h2 => by rcases h1.1 with h3 | h3 <;> omega, fun h2 => absurd h2 h1.2⟩
      · rw [if_neg e, kz i e]; exact h.waits i hi
    · rw [rz]
      split
      · rename_i e; subst e; omega
      · exact h.fresh i hi (by omega)
    · rw [hes, hz]; show s.tr ++ _ = _; rw [h.tr]
    · rw [hes, rz]
      show ((edfAt l Job.work t).1.set k ((edfAt l Job.work t).1.getD k 0 - 1)).getD i 0 = _
      rw [getD_set_eq, hE.len]
      have := h.left i hi
      by_cases e : i = k
      · subst e; rw [if_pos ⟨rfl, hk⟩, if_pos rfl]; omega
      · rw [if_neg (fun hh => e hh.1.symm), if_neg e]; exact this
    · by_cases hd : (jb l k).dl ≤ d
      · obtain ⟨a, ha, c1, c2⟩ := h.dem d
        refine ⟨a, by omega, fun i hi hr hdl => ?_, ?_⟩
        · have := c1 i hi hr hdl
          by_cases e : i = k
          · subst e; exact absurd hkk this
          · rw [kz i e]; exact this
        · have hra : (a : Int) ≤ (jb l k).rel := by
            rcases Int.lt_or_le (jb l k).rel a with hlt | hle
            · exact absurd hkk (c1 k hk hlt hd)
            · exact hle
          rw [Rob.sum_bump k (fun i => if (a : Int) ≤ (jb l i).rel ∧ (jb l i).dl ≤ d then ranAt s i else 0) _ (List.range l.length) List.nodup_range (List.mem_range.2 hk) (fun i _ hi => by rw [rz, if_neg hi]) (by rw [if_pos ⟨hra, hd⟩, if_pos ⟨hra, hd⟩, rz, if_pos rfl]), c2]
          omega
      · refine ⟨t + 1, Nat.le_refl _, fun i hi hr hdl hkz => ?_, ?_⟩
        · by_cases e : i = k
          · subst e; omega
          · rw [kz i e] at hkz
            have h2 : pickP l (edfAt l Job.work t).1 t i = true := by
              simp only [pickP, Bool.and_eq_true, decide_eq_true_eq, h.left i hi]
              have := (h.waits i hi).1 hkz
              omega
            have := hmin i hi h2
            omega
        · rw [show ((List.range l.length).map fun i => if ((t + 1 : Nat) : Int) ≤ (jb l i).rel ∧ (jb l i).dl ≤ d then ranAt z i else 0) = (List.range l.length).map fun _ => (0 : Int) from List.map_congr_left fun i hi => by
            have hi' := List.mem_range.1 hi
            split
            · rename_i hc
              have hik : i ≠ k := fun e => by subst e; omega
              rw [rz, if_neg hik]; exact h.fresh i hi' (by omega)
            · rfl]
          rw [zsum]; omega
/-- THE PLAIN LAW OF CALM. -/
theorem calm_law (p q : Int) (hok : ∀ j ∈ l, j.Ok) (hlen : l.length ≤ 200) (hm : meetsAll l) :
    (run l p q).al = [] ∧ (run l p q).tr = (edfAt l Job.work (endOf l).toNat).2 ∧ (run l p q).fa.length = l.length ∧ ∀ i, i < l.length → (((run l p q).fa.getD i (0, 0)).1 = 1 ∨ ((run l p q).fa.getD i (0, 0)).1 = 2) ∧ ((run l p q).fa.getD i (0, 0)).2 ≤ (jb l i).dl := by
  have hend0 := endOf_nonneg l
  have hc := foldl_range_inv (tick l p q) (endOf l).toNat (fun t s => Calm l t s) (start l) (calm_start hok hlen) (fun t s _ h => calm_tick hok hm h p q)
  obtain ⟨-, -, hlaw⟩ := trace_law p q hok hlen
  unfold run at hlaw ⊢
  generalize (List.range (endOf l).toNat).foldl (tick l p q) (start l) = s at hc hlaw ⊢
  have hlast : (List.range l.length).foldl (last1 (endOf l)) s = s := Rob.foldl_same _ _ _ fun i hi => by
    have hi' := List.mem_range.1 hi
    unfold last1
    rw [if_neg]
    intro hk
    have hj := jb_ok hok hi'
    have hge := endOf_ge (jb_mem hi')
    have hr1 := hj.rel1
    have hlv : live l s ((endOf l).toNat : Int) i = true := live_iff.2 ⟨by omega, hk⟩
    have := calm_dl hok hm hc hi' hlv
    have := need_pos hok hc hi' hlv
    omega
  rw [hlast] at hlaw ⊢
  refine ⟨hc.al, hc.tr, hc.inv.lfa, fun i hi => ?_⟩
  have h1 := hc.kinds i hi
  have h3 : kindAt s i = (s.fa.getD i (0, 0)).1 := rfl
  rw [h3] at h1
  rcases hlaw i hi with h2 | h2 | h2
  · exact ⟨.inl h2.1, h2.2.2.2⟩
  · exact ⟨.inr h2.1, h2.2.2.2⟩
  · omega
end Dov
end Go.Proofs.YtjgegnjclmkpeaaDoor
