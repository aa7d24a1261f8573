/- Package edf: the walks of Slack, Fits. -/
import Derived.Test.YtjgegnjclmkpeaaDoorSortWalk
set_option linter.unusedVariables false
set_option linter.unusedSimpArgs false
namespace Go.Proofs.YtjgegnjclmkpeaaDoor
open Go.RowKit Go.Sort Go.Proofs

/-- The slice's elements, cell by cell. -/
def flatL (l : List Left) : List Value := l.flatMap encL
theorem flatL_cons (x : Left) (l : List Left) : flatL (x :: l) = .int .i64 x.dl :: .int .i64 x.need :: flatL l := rfl
theorem flatL_length (l : List Left) : (flatL l).length = l.length * 2 := by
  induction l with
  | nil => rfl
  | cons x l ih => rw [flatL_cons, List.length_cons, List.length_cons, ih, List.length_cons]; omega
theorem flatL_at (l : List Left) (j : Nat) (h : j < l.length) : (flatL l)[j * 2]? = some (.int .i64 (l.getD j default).dl) ∧ (flatL l)[j * 2 + 1]? = some (.int .i64 (l.getD j default).need) := by
  induction l generalizing j with
  | nil => simp at h
  | cons p r ih =>
    cases j with
    | zero => exact ⟨rfl, rfl⟩
    | succ j =>
      have := ih j (by simpa using h)
      rw [show (j + 1) * 2 = j * 2 + 1 + 1 by omega, flatL_cons]
      simpa using this
theorem flatL_cells (l : List Left) : ∀ v ∈ flatL l, v.oneCell' = true := by
  intro v hv
  simp only [flatL, List.mem_flatMap] at hv
  obtain ⟨x, _, hx⟩ := hv
  exact encL_cells x v hx
/-- What an owned row of them holds. -/
theorem holds_own {w : World} {B g n c : Nat} {l : List Left} (h : w.ownsRow B 173 2 (.slice (some ⟨g, 0, none⟩) n c) n (flatL l)) : HoldsK encL 2 w g 0 l.toArray := by
  have hl : l.length = n := by have := h.1; rw [flatL_length] at this; omega
  intro j hj
  have hs : (flatK encL 2 l.toArray).size = l.length * 2 := by simp [flatK]
  rw [hs] at hj
  rw [Nat.zero_add]
  refine ⟨?_, h.frozenAt j⟩
  rw [h.cellAt j (by omega), get_flatK encL 2 l.toArray j (by simpa using hj)]
  have h2 : j / 2 < l.length := by omega
  have h3 : l.toArray[j / 2]! = l.getD (j / 2) default := by rw [get!_toList]
  have h4 := flatL_at l (j / 2) h2
  rw [h3]
  rcases (by omega : j % 2 = 0 ∨ j % 2 = 1) with e | e
  · have : j = j / 2 * 2 := by omega
    rw [e]
    conv => lhs; rw [this]
    exact h4.1
  · have : j = j / 2 * 2 + 1 := by omega
    rw [e]
    conv => lhs; rw [this]
    exact h4.2
theorem holdsL_at {w : World} {g : Nat} {d : Array Left} (h : HoldsK encL 2 w g 0 d) (j : Nat) (hj : j < d.size) : w.cell? ⟨g, j * 2, none⟩ = some (.int .i64 (d.toList.getD j default).dl) ∧ w.cell? ⟨g, j * 2 + 1, none⟩ = some (.int .i64 (d.toList.getD j default).need) := by
  have h0 := (h.cell (c := 0) hj (by omega)).1
  have h1 := (h.cell (c := 1) hj (by omega)).1
  rw [get!_toList] at h0 h1
  simp only [Nat.zero_add, Nat.add_zero] at h0 h1
  exact ⟨h0, h1⟩

/-- Bounds of what is left, as propositions. -/
theorem leftOk_in {x : Left} (h : leftOk x = true) : (-1000000 ≤ x.dl ∧ x.dl ≤ 1000000) ∧ (-1000000 ≤ x.need ∧ x.need ≤ 1000000) := by
  simp only [leftOk, inLeft, Bool.and_eq_true, decide_eq_true_eq] at h
  exact h
def SlackIs (now : Int) (l : List Left) (w : World) (e : Ending) (w' : World) : Prop :=
  ∃ (r : Int) (ok : Bool), e = .returned (.tuple #[.int .i64 r, .bool ok]) ∧ Below w.heap.size w w' ∧
    ((ok = false ∧ (l = [] ∨ edfMay now l = false)) ∨ (ok = true ∧ edfMay now l = true ∧ decide (0 ≤ r) = l.all fun x => decide (needTo x.dl l ≤ x.dl - now)))
theorem sortLeft_perm (l : List Left) : (Sort.insertionSort ltL l.toArray 0 l.length).toList.Perm l := by
  have := insertionSort_list ltL l.toArray
  rw [show l.toArray.size = l.length from rfl] at this
  rw [this]
  exact isort_perm ltL l
theorem sortLeft_sorted (l : List Left) : (Sort.insertionSort ltL l.toArray 0 l.length).toList.Pairwise fun a b => a.dl ≤ b.dl := by
  have h := (Sort.insertionSort_holds (lt := ltL) swo_ltL l.toArray 0 l.length (Nat.zero_le _) (Nat.le_refl _)).2
  have hl : (Sort.insertionSort ltL l.toArray 0 l.length).toList.length = l.length := (sortLeft_perm l).length_eq
  rw [List.pairwise_iff_getElem]
  intro i j hi hj hij
  have h2 := h i j (Nat.zero_le _) hij (by omega)
  rw [get!_toList, get!_toList] at h2
  simp only [ltL, decide_eq_false_iff_not, List.getD_eq_getElem?_getD, List.getElem?_eq_getElem hi, List.getElem?_eq_getElem hj, Option.getD_some] at h2
  omega
theorem slackLoop_step (now : Int) (first : Bool) (need least : Int) (s : List Left) (k : Nat) (h : k < s.length) :
    slackLoop now first need least (s.drop k) = slackLoop now false (need + max (s.getD k default).need 0) (if first || decide ((s.getD k default).dl - now - (need + max (s.getD k default).need 0) < least) then (s.getD k default).dl - now - (need + max (s.getD k default).need 0) else least) (s.drop (k + 1)) := by
  rw [List.drop_eq_getElem_cons h, slackLoop]
  simp [List.getD_eq_getElem?_getD, List.getElem?_eq_getElem h]
set_option maxHeartbeats 4000000 in
theorem slack_any (now : Int) (A : Option Addr) (b off c : Nat) (l : List Left) (w : World) (R : RdLefts w A b off l) (hl20 : l.length < 20) :
    Calls Tryd.prog 156 #[.int .i64 now, .slice A l.length c] w (SlackIs now l w) := by
  by_cases hl0 : l = []
  · subst hl0
    go_enter Tryd.func156, Tryd.ntmps156
    go_wp2
    go_ret2
    exact ⟨_, _, rfl, Below.refl _ _, .inl ⟨rfl, .inl rfl⟩⟩
  have hpos : 0 < l.length := List.length_pos_iff.2 hl0
  have hA := R.addr hpos
  subst hA
  have hmay : Aside0 _ := ⟨may_any now _ b off c l w R⟩
  have hne : (((l.length : Nat) : Int) == 0) = false := beq_eq_false_iff_ne.2 (by omega)
  have R0 : Aside0 _ := ⟨R⟩
  cases hm : edfMay now l with
  | false =>
    rw [hm] at hmay
    clear R
    generalize l.length = n at *
    go_enter Tryd.func156, Tryd.ntmps156
    go_wp2_with (go_at_call 157; refine hmay.out.mono ?_; rintro e w1 ⟨rfl, hb1⟩)
    go_ret2
    exact ⟨_, _, rfl, hb1, .inl ⟨rfl, .inr hm⟩⟩
  | true =>
    rw [hm] at hmay
    have hm2 : inLeft now = true ∧ l.all leftOk = true := by
      have : edfMay now l = (inLeft now && (decide (l.length ≤ 1000) && l.all leftOk)) := rfl
      rw [this] at hm
      simp only [Bool.and_eq_true] at hm
      exact ⟨hm.1, hm.2.2⟩
    have hnow : -1000000 ≤ now ∧ now ≤ 1000000 := by simpa [inLeft] using hm2.1
    obtain ⟨hn0, hn1⟩ := hnow
    obtain ⟨i0, hi, hzz⟩ := Option.map_eq_some_iff.1 (show (Tryd.prog.info? 173).map (fun i => (i.zero, i.size, i.bytes)) = some (some (.agg #[.int .i64 0, .int .i64 0]), 2, 16) by kernel_rfl)
    simp only [Prod.mk.injEq] at hzz
    obtain ⟨hz0, hz1, hz2⟩ := hzz
    have hclone : Aside0 (∀ W, Below w.heap.size w W → Calls Tryd.prog 181 #[.slice (some ⟨b, off, none⟩) l.length c] W fun e w' => ∃ v', e = .returned v' ∧ w'.ownsRow W.heap.size 173 2 v' l.length (flatL l) ∧ v' ≠ .slice none 0 0 ∧ Below W.heap.size W w') :=
      ⟨fun W hW => AnyE.slices_Clone Tryd.laysCloneLeft i0 _ 2 16 hi hz0 hz1 hz2 rfl (by omega) Tryd.sizeOf173 b off l.length c (flatL l) W (flatL_length l) (by unfold maxLen; omega) (by omega)
        (fun j u hu => by
          have R2 := R0.out.below hW
          have hj : j < (flatL l).length := (List.getElem?_eq_some_iff.1 hu).1
          rw [flatL_length] at hj
          have h4 := flatL_at l (j / 2) (by omega)
          rcases (by omega : j % 2 = 0 ∨ j % 2 = 1) with e | e
          · have ej : j = j / 2 * 2 := by omega
            rw [ej, h4.1] at hu
            rw [ej, R2.c0 _ (by omega)]; exact hu
          · have ej : j = j / 2 * 2 + 1 := by omega
            rw [ej, h4.2] at hu
            rw [ej, ← Nat.add_assoc, R2.c1 _ (by omega)]; exact hu) (flatL_cells l)⟩
    have hperm := sortLeft_perm l
    have hsorted := sortLeft_sorted l
    have hfin := slack_fits now l _ hperm hsorted hl0
    have HPS : Aside0 _ := ⟨And.intro hperm hfin⟩
    have hall : ∀ k, k < l.length → leftOk ((Sort.insertionSort ltL l.toArray 0 l.length).toList.getD k default) = true := fun k hk => by
      have := hperm.mem_iff.1 (getD_mem (d := default) (show k < (Sort.insertionSort ltL l.toArray 0 l.length).toList.length by rw [hperm.length_eq]; exact hk))
      exact List.all_eq_true.1 hm2.2 _ this
    have HALL : Aside0 _ := ⟨hall⟩
    have HM : Aside0 _ := ⟨hm⟩
    have hsort : Aside0 (∀ (blk cap : Nat) (W : World), HoldsK encL 2 W blk 0 l.toArray → blk < W.heap.size → Calls Tryd.prog 182 #[.slice (some ⟨blk, 0, none⟩) l.length cap, .func (.func 183) #[] #[]] W fun e w' =>
        e = .returned (.tuple #[]) ∧ HoldsK encL 2 w' blk 0 (Sort.insertionSort ltL l.toArray 0 l.length) ∧ W.grownBy w' (some blk)) := ⟨fun blk cap W h1 h2 => sortLeft_any blk cap l.toArray W h1 h2 (by simpa using hl20)⟩
    clear hm hm2 hperm hsorted hfin hall R hz0 hz1 hz2 hi
    generalize hs : Sort.insertionSort ltL l.toArray 0 l.length = s at hsort HPS HALL
    have hsl : s.toList.length = l.length := HPS.out.1.length_eq
    have hsz : s.size = l.length := by simpa using hsl
    clear hs hsl
    have HSZ := hide hsz
    clear hsz
    obtain ⟨n, hn⟩ : ∃ n, n = l.length := ⟨_, rfl⟩
    have HN := hide hn
    rw [← hn] at hne hmay hclone hsort hpos hl20 HSZ HALL ⊢
    clear hn
    go_enter Tryd.func156, Tryd.ntmps156
    go_wp2_with (go_at_call 157; refine hmay.out.mono ?_; rintro e w1 ⟨rfl, hb1⟩)
    refine (hclone.out _ hb1).mono ?_
    rintro e w2 ⟨v', rfl, hown, hvn, hb2⟩
    obtain ⟨g, cap, rfl⟩ : ∃ g cap, v' = .slice (some ⟨g, 0, none⟩) n cap := by
      rcases hown.2 with ⟨_, h⟩ | ⟨g, cap', _, h, _⟩
      · omega
      · exact ⟨g, cap', h⟩
    have hg2 := own_size (g := g) hown rfl
    have hge2 := own_ge (g := g) hown rfl
    have HO2 : Aside0 _ := ⟨holds_own hown⟩
    have HB2 : Aside0 _ := ⟨below_then hb1 hb2⟩
    have hge : w.heap.size ≤ g := Nat.le_trans hb1.size hge2
    clear hown hvn hb1 hb2 hge2 hmay hclone
    go_wp2_with (go_at_call 182; refine (hsort.out g cap _ HO2.out hg2).mono ?_; rintro e w3 ⟨rfl, hh3, hgr3⟩)
    have HH3 : Aside0 _ := ⟨hh3⟩
    have HB3 : Aside0 (Below w.heap.size w w3) := ⟨HB2.out.grown hgr3 HB2.out.size (fun k hk => by cases hk; exact hge)⟩
    have hg3 : g < w3.heap.size := Nat.lt_of_lt_of_le hg2 hgr3.size
    clear hh3 hgr3 HB2 HO2 hsort hg2
    go_loopw [7, 8, 9, 10, 11, 27] (fun a b _ _ _ t wr => ∃ k : Nat, k ≤ n ∧ t = .int .i64 k ∧ Below w3.heap.size w3 wr ∧ ∃ nd ls : Int, a = .int .i64 nd ∧ b = .int .i64 ls ∧ 0 ≤ nd ∧ nd ≤ k * 1000000 ∧ -100000000 ≤ ls ∧ ls ≤ 100000000 ∧ Hid (slackLoop now (k == 0) nd ls (s.toList.drop k) = slackLoop now true 0 0 s.toList)) (fun _ _ _ _ _ t _ => n - (intOf t).toNat)
    case atStart => exact ⟨0, by omega, rfl, Below.refl _ _, 0, 0, rfl, rfl, by omega, by omega, by omega, by omega, rfl⟩
    case round =>
      obtain ⟨k, hk, rfl, hb, nd, ls, rfl, rfl, d0, d1, d2, d3, HX⟩ := hrel
      by_cases hlt : k < n
      · have hks : k < s.toList.length := by have := HSZ.out; simp; omega
        obtain ⟨j0, j1⟩ := holdsL_at HH3.out k (by simpa using hks)
        replace j0 := (hb.cell (p := ⟨g, k * 2, none⟩) hg3).trans j0
        replace j1 := (hb.cell (p := ⟨g, k * 2 + 1, none⟩) hg3).trans j1
        obtain ⟨⟨p0, p1⟩, p2, p3⟩ := leftOk_in (HALL.out k hlt)
        have hst := slackLoop_step now (k == 0) nd ls s.toList k hks
        rw [HX.out] at hst
        have HST := hide hst
        clear hst HX
        have HBR : Aside0 _ := ⟨hb⟩
        clear hb
        generalize s.toList.getD k default = x at j0 j1 p0 p1 p2 p3 HST
        have hm0 : 0 ≤ max x.need 0 ∧ max x.need 0 ≤ 1000000 := by omega
        obtain ⟨hm0, hm1⟩ := hm0
        have fin : ∀ (wx : World) (lsn : Int), Below wr.heap.size wr wx → lsn = (if (k == 0) || decide (x.dl - now - (nd + max x.need 0) < ls) then x.dl - now - (nd + max x.need 0) else ls) → (∃ k' : Nat, k' ≤ n ∧ Value.int .i64 ((k : Int) + 1) = .int .i64 k' ∧ Below w3.heap.size w3 wx ∧ ∃ nd' ls' : Int, Value.int .i64 (nd + max x.need 0) = .int .i64 nd' ∧ Value.int .i64 lsn = .int .i64 ls' ∧ 0 ≤ nd' ∧ nd' ≤ k' * 1000000 ∧ -100000000 ≤ ls' ∧ ls' ≤ 100000000 ∧ Hid (slackLoop now (k' == 0) nd' ls' (s.toList.drop k') = slackLoop now true 0 0 s.toList)) := fun wx lsn hwx hls =>
          ⟨k + 1, by omega, by go_num, below_then HBR.out hwx, nd + max x.need 0, lsn, rfl, rfl, by omega, by omega, by rw [hls]; split <;> omega, by rw [hls]; split <;> omega, by show _ = _; rw [HST.out, hls]; rfl⟩
        have FIN : Aside0 _ := ⟨fin⟩
        clear fin HST HALL
        by_cases hk0 : k = 0
        · have hk0' : ((k : Int) == 0) = true := by rw [hk0]; rfl
          have hkb : (k == 0) = true := by rw [hk0]; rfl
          have HKB := hide hkb
          clear hkb hk0
          go_wp2
          go_roundw
          case rel => exact FIN.out _ _ (below_alloc (Below.refl _ _) _) (by rw [HKB.out]; simp)
          case measure => simp [intOf]; omega
        · have hk0' : ((k : Int) == 0) = false := beq_eq_false_iff_ne.2 (by omega)
          have hkb : (k == 0) = false := beq_eq_false_iff_ne.2 hk0
          have HKB := hide hkb
          clear hkb hk0
          by_cases hd : x.dl - now - (nd + max x.need 0) < ls
          · go_wp2
            go_roundw
            case rel => exact FIN.out _ _ (below_alloc (Below.refl _ _) _) (by rw [HKB.out, decide_eq_true hd]; simp)
            case measure => simp [intOf]; omega
          · go_wp2
            go_roundw
            case rel => exact FIN.out _ _ (below_alloc (Below.refl _ _) _) (by rw [HKB.out, decide_eq_false hd]; simp)
            case measure => simp [intOf]; omega
      · have hfin : ls = slackLoop now true 0 0 s.toList := by
          have := HX.out
          rw [List.drop_eq_nil_of_le (by have := HSZ.out; simp; omega)] at this
          rw [← this]; cases (k == 0) <;> rfl
        have HF := hide hfin
        clear hfin
        go_wp2
        go_ret2
        exact ⟨_, _, rfl, below_then HB3.out hb, .inr ⟨rfl, HM.out, by rw [HF.out]; exact HPS.out.2⟩⟩
end Go.Proofs.YtjgegnjclmkpeaaDoor
