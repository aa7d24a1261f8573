/- Plain: of two jobs that each fit alone the Dover scheduler earns within the bound of all that there is to earn. No program in sight. -/
import Derived.Test.YtjgegnjclmkpeaaDoorDovModel
set_option linter.unusedVariables false
namespace Go.Proofs.YtjgegnjclmkpeaaDoor
namespace Dov
open Rob (jb jb_mem jb_ok byDl)
/-- surd.Bound, of a rule that may be. -/
def boundB (v w p q : Int) : Bool := decide (v * q - w * q - w * p ≤ 0 ∨ (v * q - w * q - w * p) * (v * q - w * q - w * p) ≤ 4 * w * w * (p * q))
def metBy (l : List Job) (t : List Int) (i : Nat) : Bool := (doneAt l t i).2 && decide ((doneAt l t i).1 ≤ (jb l i).dl) && (jb l i).runs
/-- trace.Value. -/
def valueOf (l : List Job) (t : List Int) : Int := (List.range l.length).foldl (fun n i => if metBy l t i then n + (jb l i).val else n) 0
theorem bound_lost {x w v p q : Int} (hx : 0 ≤ x) (hw : 0 ≤ w) (hq : 1 ≤ q) (hpq : q ≤ p) (hv0 : 0 ≤ v) (hv : v ≤ w + x) (h : above x w p q = false) : boundB v w p q = true := by
  unfold above at h
  rw [decide_eq_false_iff_not] at h
  unfold boundB
  rw [decide_eq_true_eq]
  have hvq : v * q ≤ (w + x) * q := Int.mul_le_mul_of_nonneg_right hv (by omega)
  have hwp : w * q ≤ w * p := Int.mul_le_mul_of_nonneg_left hpq hw
  rw [Int.add_mul] at hvq
  generalize ha : v * q - w * q - w * p = a
  by_cases hxw : x ≤ w
  · left
    have : x * q ≤ w * q := Int.mul_le_mul_of_nonneg_right hxw (by omega)
    omega
  · by_cases hw0 : w = 0
    · exact absurd (.inl ⟨hw0, by omega⟩) h
    · have h2 : ¬ w * w * p < (x - w) * (x - w) * q := fun h3 => h (.inr ⟨by omega, by omega, h3⟩)
      by_cases ha0 : a ≤ 0
      · exact .inl ha0
      · right
        obtain ⟨y, hy⟩ : ∃ y, y = x - w := ⟨_, rfl⟩
        have hxq : x * q = y * q + w * q := by rw [hy, Int.sub_mul]; omega
        have hay : a ≤ y * q := by omega
        rw [← hy] at h2
        have h3 : a * a ≤ (y * q) * (y * q) := Int.mul_le_mul hay hay (by omega) (by omega)
        have h4 : (y * q) * (y * q) = (y * y * q) * q := by
          rw [Int.mul_assoc, Int.mul_assoc, Int.mul_assoc y y, Int.mul_left_comm q y]
        have h5 : (y * y * q) * q ≤ (w * w * p) * q := Int.mul_le_mul_of_nonneg_right (by omega) (by omega)
        have h6 : (w * w * p) * q = w * w * (p * q) := Int.mul_assoc _ _ _
        have h7 : 0 ≤ w * w * (p * q) := Int.mul_nonneg (Int.mul_nonneg hw hw) (Int.mul_nonneg (by omega) (by omega))
        have h8 : 4 * w * w * (p * q) = 4 * (w * w * (p * q)) := by simp only [Int.mul_assoc]
        omega
theorem bound_won {x w v p q : Int} (hx : 0 ≤ x) (hw : 0 ≤ w) (hq : 1 ≤ q) (hpq : q ≤ p) (hv0 : 0 ≤ v) (hv : v ≤ x + w) (h : above x w p q = true) : boundB v x p q = true := by
  unfold above at h
  rw [decide_eq_true_eq] at h
  unfold boundB
  rw [decide_eq_true_eq]
  left
  have hvq : v * q ≤ (x + w) * q := Int.mul_le_mul_of_nonneg_right hv (by omega)
  have hxp : x * q ≤ x * p := Int.mul_le_mul_of_nonneg_left hpq hx
  have hwq : w * q ≤ x * q := Int.mul_le_mul_of_nonneg_right (by omega) (by omega)
  rw [Int.add_mul] at hvq
  omega
theorem bound_all {w v p q : Int} (hw : 0 ≤ w) (hp : 0 ≤ p) (hq : 0 ≤ q) (hv : v ≤ w) : boundB v w p q = true := by
  unfold boundB
  rw [decide_eq_true_eq]
  left
  have h1 : v * q ≤ w * q := Int.mul_le_mul_of_nonneg_right hv hq
  have h2 : 0 ≤ w * p := Int.mul_nonneg hw hp
  omega

/-- Two jobs that each fit alone, without what would abort them. -/
structure Two (l : List Job) : Prop where
  len : l.length = 2
  ok : ∀ j ∈ l, j.Ok
  cln : ∀ i, i < 2 → (jb l i).cln = 0
  act : ∀ i, i < 2 → (jb l i).act = (jb l i).bud
  fit : ∀ i, i < 2 → (jb l i).bud ≤ (jb l i).dl - (jb l i).rel
def Won (l : List Job) (p q : Int) (i k : Nat) : Prop := ∀ v, 0 ≤ v → v ≤ (jb l i).val + (jb l k).val → boundB v (jb l i).val p q = true
structure TInv (l : List Job) (p q : Int) (t : Nat) (s : DS) : Prop where
  inv : Inv l t s
  kinds : ∀ i, i < 2 → kindAt s i = 0 ∨ kindAt s i = 1 ∨ (kindAt s i = 3 ∧ kindAt s (1 - i) ≠ 3 ∧ Won l p q (1 - i) i)
  need : ∀ i, i < 2 → kindAt s i = 0 → (jb l i).bud - ranAt s i ≤ (jb l i).dl - t ∧ (jb l i).bud - ranAt s i ≤ (jb l i).dl - (jb l i).rel ∨ (t : Int) < (jb l i).rel ∧ (jb l i).bud - ranAt s i ≤ (jb l i).dl - (jb l i).rel
variable {l : List Job} {t : Nat} {s : DS} {p q : Int}
theorem Two.runs (h : Two l) {i : Nat} (hi : i < 2) : (jb l i).runs = true ∧ (jb l i).work = (jb l i).bud ∧ (jb l i).charge = (jb l i).bud := by
  have h1 := h.act i hi
  have h2 := h.cln i hi
  unfold Job.runs Job.work Job.charge
  refine ⟨decide_eq_true (by omega), by rw [if_pos (by omega)]; exact h1, by omega⟩
theorem Two.noabo (h : Two l) {i : Nat} (hi : i < 2) (s : DS) : abo l s i = false := by
  unfold abo; rw [(h.runs hi).1]; rfl
theorem lives_two (h : Two l) (s : DS) (t : Int) : lives l s t = [] ∨ (∃ x, lives l s t = [x]) ∨ ∃ x y, lives l s t = [x, y] ∧ x ≠ y := by
  have hm : ∀ i ∈ lives l s t, i < 2 := fun i hi => by have := (lives_mem.1 hi).1; rw [h.len] at this; exact this
  have hn := lives_nodup l s t
  match hl : lives l s t, hm, hn with
  | [], _, _ => exact .inl rfl
  | [x], _, _ => exact .inr (.inl ⟨x, rfl⟩)
  | [x, y], _, hn => exact .inr (.inr ⟨x, y, rfl, by simpa using hn⟩)
  | x :: y :: z :: r, hm, hn =>
    have h1 := hm x (by simp)
    have h2 := hm y (by simp)
    have h3 := hm z (by simp)
    simp only [List.nodup_cons, List.mem_cons, not_or] at hn
    omega
theorem TInv.waits (h : TInv l p q t s) (h2 : Two l) {i : Nat} (hi : i < 2) (hk : kindAt s i = 0) : ranAt s i < (jb l i).bud := by
  have := h.inv.waits i (by rw [h2.len]; exact hi) hk
  rw [(h2.runs hi).2.1] at this; exact this
theorem two_expire (h2 : Two l) (h : TInv l p q t s) : expire l t s = s := by
  unfold expire
  have : ∀ (r : List Nat), (∀ i ∈ r, i < 2) → r.foldl (exp1 l t) s = s := by
    intro r hr
    induction r with
    | nil => rfl
    | cons i r ih =>
      have hi := hr i (by simp)
      have e : exp1 l t s i = s := by
        unfold exp1
        rw [if_neg]
        intro hc
        simp only [Bool.and_eq_true, decide_eq_true_eq] at hc
        have hl := live_iff.1 hc.1
        have h3 := h.need i hi hl.2
        have h4 := h.waits h2 hi hl.2
        omega
      rw [List.foldl_cons, e]; exact ih fun j hj => hr j (by simp [hj])
  exact this _ fun i hi => by have := List.mem_range.1 hi; rw [h2.len] at this; exact this
/-- The head runs. -/
theorem two_run (h2 : Two l) (h : TInv l p q t s) (hr : ∀ i, i < 2 → live l s t i = true → (lives l s t).head? ≠ some i → (jb l i).bud - ranAt s i + 1 ≤ (jb l i).dl - t) : TInv l p q (t + 1) (runTick l t s) := by
  have hdl : ∀ i, i < l.length → live l s t i = true → (t : Int) < (jb l i).dl := fun i hi hl => by
    rw [h2.len] at hi
    have hl := live_iff.1 hl
    have h3 := h.need i hi hl.2
    have h4 := h.waits h2 hi hl.2
    omega
  have hinv := runTick_spec h.inv hdl
  unfold runTick at hinv ⊢
  cases hl : lives l s t with
  | nil =>
    rw [hl] at hinv
    refine ⟨hinv, h.kinds, fun i hi hk => ?_⟩
    have hno : ¬ (jb l i).rel ≤ t := fun hr => by
      have : i ∈ lives l s t := lives_mem.2 ⟨by rw [h2.len]; exact hi, hr, hk⟩
      rw [hl] at this; cases this
    have h3 := h.need i hi hk
    show (jb l i).bud - ranAt s i ≤ _ ∧ (jb l i).bud - ranAt s i ≤ _ ∨ _ ∧ (jb l i).bud - ranAt s i ≤ _
    omega
  | cons k r =>
    rw [hl] at hinv hr
    obtain ⟨hk, hrelk, hkk⟩ := lives_mem.1 (show k ∈ lives l s t by rw [hl]; simp)
    have hlr : k < s.ran.length := by rw [h.inv.lran]; exact hk
    have hlf : k < s.fa.length := by rw [h.inv.lfa]; exact hk
    rw [h2.len] at hk
    simp only at hinv ⊢
    rw [runAt_eq] at hinv ⊢
    obtain ⟨z, hz⟩ : ∃ z : DS, z = { s with tr := s.tr ++ [(k : Int)], ran := s.ran.set k (ranAt s k + 1), fa := if ranAt s k + 1 < (jb l k).work then s.fa else s.fa.set k (if (jb l k).runs then 1 else 2, (t : Int) + 1) } := ⟨_, rfl⟩
    rw [← hz] at hinv ⊢
    have rz : ∀ i, ranAt z i = if i = k then ranAt s k + 1 else ranAt s i := fun i => by
      rw [hz]
      show (s.ran.set k (ranAt s k + 1)).getD i 0 = _
      rw [getD_set_eq]
      by_cases e : i = k
      · subst e; rw [if_pos ⟨rfl, hlr⟩, if_pos rfl]
      · rw [if_neg (fun hh => e hh.1.symm), if_neg e]; rfl
    have kz : ∀ i, i ≠ k → kindAt z i = kindAt s i := fun i e => by
      rw [hz]
      unfold kindAt
      simp only
      split
      · rfl
      · rw [getD_set_eq, if_neg (fun hh => e hh.1.symm)]
    have kzk : kindAt z k = 0 ∨ kindAt z k = 1 := by
      rw [hz]
      unfold kindAt
      simp only
      by_cases hc : ranAt s k + 1 < (jb l k).work
      · rw [if_pos hc]; exact .inl hkk
      · rw [if_neg hc, getD_set_eq, if_pos ⟨rfl, hlf⟩, (h2.runs hk).1]; exact .inr rfl
    refine ⟨hinv, fun i hi => ?_, fun i hi hki => ?_⟩
    · by_cases e : i = k
      · subst e
        rcases kzk with h1 | h1
        · exact .inl h1
        · exact .inr (.inl h1)
      · rw [kz i e]
        rcases h.kinds i hi with h1 | h1 | ⟨h1, h3, h4⟩
        · exact .inl h1
        · exact .inr (.inl h1)
        · refine .inr (.inr ⟨h1, ?_, h4⟩)
          obtain rfl : 1 - i = k := by omega
          omega
    · rw [rz]
      by_cases e : i = k
      · subst e
        have h3 := h.need i hi hkk
        rw [if_pos rfl]; omega
      · rw [if_neg e]
        rw [kz i e] at hki
        have h3 := h.need i hi hki
        by_cases hrel : (jb l i).rel ≤ t
        · have h4 := hr i hi (live_iff.2 ⟨hrel, hki⟩) (by simp; omega)
          omega
        · omega
theorem two_tick (h2 : Two l) (hq : 1 ≤ q) (hpq : q ≤ p) (h : TInv l p q t s) : TInv l p q (t + 1) (tick l p q s t) := by
  unfold tick
  rw [two_expire h2 h]
  have hm : ∀ {z : DS} {i : Nat}, i ∈ lives l z t → i < 2 := fun hi => by have := (lives_mem.1 hi).1; rw [h2.len] at this; exact this
  have quiet : ∀ z : DS, (lives l z t = [] ∨ ∃ x, lives l z t = [x]) → ring l p q t z = none := fun z hz => by
    unfold ring
    rcases hz with e | ⟨x, e⟩
    · rw [e]; rfl
    · rw [e]
      unfold ringGo
      rw [h2.noabo (hm (by rw [e]; simp))]
      rfl
  rw [h2.len]
  rcases lives_two h2 s t with e | ⟨x, e⟩ | ⟨x, y, e, hxy⟩
  · rw [rings_none _ (quiet s (.inl e))]
    exact two_run h2 h fun i hi hl => by
      have hl := live_iff.1 hl
      have : i ∈ lives l s t := lives_mem.2 ⟨by rw [h2.len]; exact hi, hl.1, hl.2⟩
      rw [e] at this; cases this
  · rw [rings_none _ (quiet s (.inr ⟨x, e⟩))]
    exact two_run h2 h fun i hi hl hh => by
      have hl := live_iff.1 hl
      have : i ∈ lives l s t := lives_mem.2 ⟨by rw [h2.len]; exact hi, hl.1, hl.2⟩
      rw [e] at this hh
      obtain rfl : i = x := by simpa using this
      exact absurd rfl hh
  · have hx : x ∈ lives l s t := by rw [e]; simp
    have hy : y ∈ lives l s t := by rw [e]; simp
    have hx2 := hm hx
    have hy2 := hm hy
    have hxk := (lives_mem.1 hx).2
    have hyk := (lives_mem.1 hy).2
    have hgo : ringGo l s t [x, y] [] 0 = if (jb l y).dl - t ≤ (jb l y).charge - ranAt s y then some (y, [x], 0 + (jb l x).val) else none := by
      unfold ringGo
      rw [h2.noabo hx2]
      simp only [List.isEmpty_nil, Bool.not_true, Bool.false_and, Bool.false_eq_true, if_false]
      unfold ringGo
      rw [h2.noabo hy2]
      simp only [List.nil_append, List.isEmpty_cons, Bool.not_false, Bool.true_and, Bool.false_eq_true, if_false, decide_eq_true_eq]
      split <;> rfl
    rw [(h2.runs hy2).2.2] at hgo
    by_cases hc : (jb l y).dl - t ≤ (jb l y).bud - ranAt s y
    · rw [if_pos hc] at hgo
      have hring : ring l p q t s = some (dec l p q t s y [x] (0 + (jb l x).val)) := by
        unfold ring; rw [e, hgo]; rfl
      have hsh := ring_shed h.inv.lfa hring
      have hox := jb_ok h2.ok (show x < l.length by rw [h2.len]; exact hx2)
      have hoy := jb_ok h2.ok (show y < l.length by rw [h2.len]; exact hy2)
      have hv0 := hox.val0
      have hv1 := hox.val1
      have hv2 := hoy.val0
      have hmin : min (0 + (jb l x).val) 1000000000 = (jb l x).val := by omega
      obtain ⟨z, hz⟩ : ∃ z, z = dec l p q t s y [x] (0 + (jb l x).val) := ⟨_, rfl⟩
      rw [← hz] at hring hsh
      have hxl : x < ({ s with al := s.al ++ [(y : Int)] } : DS).fa.length := by show x < s.fa.length; rw [h.inv.lfa, h2.len]; exact hx2
      have hyl : y < ({ s with al := s.al ++ [(y : Int)] } : DS).fa.length := by show y < s.fa.length; rw [h.inv.lfa, h2.len]; exact hy2
      -- who is shed, who stays
      have key : ∃ u g, (u = x ∧ g = y ∨ u = y ∧ g = x) ∧ Won l p q u g ∧ kindAt z g = 3 ∧ ∀ j, j ≠ g → kindAt z j = kindAt s j := by
        cases ha : above (jb l y).val (jb l x).val p q with
        | true =>
          refine ⟨y, x, .inr ⟨rfl, rfl⟩, fun v h0 h1 => bound_won hv2 hv0 hq hpq h0 h1 ha, ?_, fun j hj => ?_⟩
          · rw [hz]; unfold dec; rw [hmin, ha, if_pos rfl]; unfold shedAll; simp only [List.foldl_cons, List.foldl_nil]; rw [kindAt_say _ _ _ _ _ hxl, if_pos rfl]
          · rw [hz]; unfold dec; rw [hmin, ha, if_pos rfl]; unfold shedAll; simp only [List.foldl_cons, List.foldl_nil]; rw [kindAt_say _ _ _ _ _ hxl, if_neg hj]; rfl
        | false =>
          refine ⟨x, y, .inl ⟨rfl, rfl⟩, fun v h0 h1 => bound_lost hv2 hv0 hq hpq h0 h1 ha, ?_, fun j hj => ?_⟩
          · rw [hz]; unfold dec; rw [hmin, ha]; simp only [Bool.false_eq_true, if_false]; rw [kindAt_say _ _ _ _ _ hyl, if_pos rfl]
          · rw [hz]; unfold dec; rw [hmin, ha]; simp only [Bool.false_eq_true, if_false]; rw [kindAt_say _ _ _ _ _ hyl, if_neg hj]; rfl
      obtain ⟨u, g, hug, hwon, hk3, hkeep⟩ := key
      have hne : u ≠ g := by omega
      have hu2 : u < 2 := by omega
      have hg2 : g < 2 := by omega
      have huk : (jb l u).rel ≤ t ∧ kindAt s u = 0 := by rcases hug with ⟨rfl, -⟩ | ⟨rfl, -⟩ <;> assumption
      have hT : TInv l p q t z := by
        refine ⟨h.inv.shed hsh, fun i hi => ?_, fun i hi hk => ?_⟩
        · by_cases hig : i = g
          · subst hig
            have h1u : 1 - i = u := by omega
            rw [h1u]
            exact .inr (.inr ⟨hk3, by rw [hkeep u hne, huk.2]; omega, hwon⟩)
          · rw [hkeep i hig]
            have : i = u := by omega
            subst this
            exact .inl huk.2
        · have hig : i ≠ g := by rintro rfl; omega
          rw [hkeep i hig] at hk
          have h3 := h.need i hi hk
          have : ranAt z i = ranAt s i := by unfold ranAt; rw [hsh.ran]
          rw [this]; exact h3
      have hlz : lives l z t = [u] := by
        have hmem : ∀ i, i ∈ lives l z t ↔ i = u := fun i => by
          rw [lives_mem, h2.len]
          constructor
          · rintro ⟨a, b, c⟩
            have : i ≠ g := by rintro rfl; omega
            omega
          · rintro rfl
            exact ⟨hu2, huk.1, by rw [hkeep i hne]; exact huk.2⟩
        rcases lives_two h2 z t with e2 | ⟨a, e2⟩ | ⟨a, b, e2, hab⟩
        · have := (hmem u).2 rfl
          rw [e2] at this; cases this
        · have := (hmem a).1 (by rw [e2]; simp)
          rw [e2, this]
        · have h1 := (hmem a).1 (by rw [e2]; simp)
          have h2 := (hmem b).1 (by rw [e2]; simp)
          omega
      rw [rings_some _ hring, rings_none _ (quiet z (.inr ⟨u, hlz⟩))]
      exact two_run h2 hT fun i hi hl hh => by
        have hl := live_iff.1 hl
        have : i ∈ lives l z t := lives_mem.2 ⟨by rw [h2.len]; exact hi, hl.1, hl.2⟩
        rw [hlz] at this hh
        obtain rfl : i = u := by simpa using this
        exact absurd rfl hh
    · rw [if_neg hc] at hgo
      have hring : ring l p q t s = none := by unfold ring; rw [e, hgo]; rfl
      rw [rings_none _ hring]
      exact two_run h2 h fun i hi hl hh => by
        have hl := live_iff.1 hl
        have : i ∈ lives l s t := lives_mem.2 ⟨by rw [h2.len]; exact hi, hl.1, hl.2⟩
        rw [e] at this hh
        simp only [List.head?_cons, ne_eq, Option.some.injEq] at hh
        have : i = x ∨ i = y := by simpa using this
        have : i = y := by omega
        subst this
        omega
/-- THE PLAIN LAW OF TWO. -/
theorem two_law (h2 : Two l) (hq : 1 ≤ q) (hpq : q ≤ p) (v : Int) (hv0 : 0 ≤ v) (hv : v ≤ (jb l 0).val + (jb l 1).val) : boundB v (valueOf l (run l p q).tr) p q = true := by
  have hend0 := endOf_nonneg l
  have hlen : l.length ≤ 200 := by rw [h2.len]; omega
  obtain ⟨-, -, hlaw⟩ := trace_law p q h2.ok hlen
  have h0 : TInv l p q 0 (start l) := by
    have hi := inv_start h2.ok hlen
    have rep : ∀ i (a : Int), (List.replicate l.length a).getD i a = a := fun i a => by
      rw [List.getD_eq_getElem?_getD, List.getElem?_replicate]; split <;> rfl
    have rep2 : ∀ i, (List.replicate l.length ((0 : Int), (0 : Int))).getD i (0, 0) = (0, 0) := fun i => by
      rw [List.getD_eq_getElem?_getD, List.getElem?_replicate]; split <;> rfl
    have k0 : ∀ i, kindAt (start l) i = 0 := fun i => by show ((List.replicate l.length ((0 : Int), (0 : Int))).getD i (0, 0)).1 = 0; rw [rep2]
    have r0 : ∀ i, ranAt (start l) i = 0 := fun i => rep i 0
    refine ⟨hi, fun i _ => .inl (k0 i), fun i hi2 _ => ?_⟩
    have := h2.fit i hi2
    have := (jb_ok h2.ok (show i < l.length by rw [h2.len]; exact hi2)).rel0
    rw [r0]; omega
  have hT := foldl_range_inv (tick l p q) (endOf l).toNat (fun t s => TInv l p q t s) (start l) h0 (fun t s _ h => two_tick h2 hq hpq h)
  have hmet : ∀ i, i < 2 → metBy l (run l p q).tr i = decide (((run l p q).fa.getD i (0, 0)).1 = 1) := fun i hi => by
    unfold metBy
    rcases hlaw i (by rw [h2.len]; exact hi) with ⟨a, b, c, d⟩ | ⟨a, b, c, d⟩ | ⟨a, c⟩
    · rw [b, c, a]; simpa using d
    · rw [b, a]; simp
    · rw [c]
      rcases a with a | a <;> rw [a] <;> rfl
  have hval : valueOf l (run l p q).tr = (if ((run l p q).fa.getD 0 (0, 0)).1 = 1 then (jb l 0).val else 0) + (if ((run l p q).fa.getD 1 (0, 0)).1 = 1 then (jb l 1).val else 0) := by
    unfold valueOf
    rw [h2.len]
    show (if metBy l (run l p q).tr 1 then (if metBy l (run l p q).tr 0 then 0 + (jb l 0).val else 0) + (jb l 1).val else (if metBy l (run l p q).tr 0 then 0 + (jb l 0).val else 0)) = _
    rw [hmet 0 (by omega), hmet 1 (by omega)]
    simp only [decide_eq_true_eq]
    split <;> split <;> omega
  rw [hval]
  clear hval hmet hlaw
  unfold run
  generalize (List.range (endOf l).toNat).foldl (tick l p q) (start l) = s at hT ⊢
  have hnz : ∀ i, i < 2 → kindAt s i ≠ 0 := fun i hi hk => by
    have hil : i < l.length := by rw [h2.len]; exact hi
    have h3 := hT.need i hi hk
    have h4 := hT.waits h2 hi hk
    have h5 := endOf_ge (jb_mem hil)
    have h6 := (jb_ok h2.ok hil).rel1
    omega
  have hlast := (last_spec hT.inv (endOf l)).2.1
  have e : ∀ i, i < 2 → ((List.range l.length).foldl (last1 (endOf l)) s).fa.getD i (0, 0) = s.fa.getD i (0, 0) := fun i hi => (hlast i (by rw [h2.len]; exact hi)).2 (hnz i hi)
  rw [e 0 (by omega), e 1 (by omega)]
  have k0 := hT.kinds 0 (by omega)
  have k1 := hT.kinds 1 (by omega)
  have n0 := hnz 0 (by omega)
  have n1 := hnz 1 (by omega)
  have v0 := (jb_ok h2.ok (show 0 < l.length by rw [h2.len]; omega)).val0
  have v1 := (jb_ok h2.ok (show 1 < l.length by rw [h2.len]; omega)).val0
  change boundB v ((if kindAt s 0 = 1 then (jb l 0).val else 0) + (if kindAt s 1 = 1 then (jb l 1).val else 0)) p q = true
  simp only [Nat.sub_zero, Nat.sub_self] at k0 k1
  rcases k0 with k0 | k0 | ⟨k0, k0', w0⟩
  · exact absurd k0 n0
  · rcases k1 with k1 | k1 | ⟨k1, k1', w1⟩
    · exact absurd k1 n1
    · rw [if_pos k0, if_pos k1]
      exact bound_all (by omega) (by omega) (by omega) hv
    · rw [if_pos k0, if_neg (by omega), Int.add_zero]
      exact w1 v hv0 hv
  · have k1 : kindAt s 1 = 1 := by
      rcases k1 with k1 | k1 | k1
      · exact absurd k1 n1
      · exact k1
      · exact absurd k1.1 k0'
    rw [if_neg (by omega), if_pos k1, Int.zero_add]
    exact w0 v hv0 (by omega)
end Dov
end Go.Proofs.YtjgegnjclmkpeaaDoor
