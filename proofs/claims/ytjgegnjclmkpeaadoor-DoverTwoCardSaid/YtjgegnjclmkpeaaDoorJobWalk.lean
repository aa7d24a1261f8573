/- Package job: the walks of Good, All, Charge, Work, Runs, End. -/
import Derived.Test.YtjgegnjclmkpeaaDoorName
set_option linter.unusedVariables false
set_option linter.unusedSimpArgs false
namespace Go.Proofs.YtjgegnjclmkpeaaDoor
open Go.RowKit

def inB (n lo hi : Int) : Bool := decide (lo ≤ n) && decide (n ≤ hi)
theorem in_any (n lo hi : Int) (w : World) : Calls Tryd.prog 117 #[.int .i64 n, .int .i64 lo, .int .i64 hi] w fun e w' => e = .returned (.bool (inB n lo hi)) ∧ w = w' := by
  by_cases h1 : lo ≤ n
  · by_cases h2 : n ≤ hi
    all_goals
      go_enter Tryd.func117, Tryd.ntmps117
      go_wp2
      go_ret
      exact ⟨by simp [inB]; omega, rfl⟩
  · go_enter Tryd.func117, Tryd.ntmps117
    go_wp2
    go_ret
    exact ⟨by simp [inB]; omega, rfl⟩

namespace Job
def cells (j : Job) : List Value := [.string j.name, .int .i64 j.rel, .int .i64 j.dl, .int .i64 j.bud, .int .i64 j.act, .int .i64 j.val, .int .i64 j.cln, .bool j.hard]
def agg (j : Job) : Value := .agg #[.string j.name, .int .i64 j.rel, .int .i64 j.dl, .int .i64 j.bud, .int .i64 j.act, .int .i64 j.val, .int .i64 j.cln, .bool j.hard]
/-- Package job's Good. -/
def ok (j : Job) : Bool := j.good goodName
end Job
theorem Job.ok_eq (nm : ByteArray) (rel dl bud act val cln : Int) (hard : Bool) : Job.ok ⟨nm, rel, dl, bud, act, val, cln, hard⟩ =
    (goodName nm && (inB rel 0 10000 && decide (rel < dl) && decide (dl ≤ 10000)) && (inB bud 1 1000 && inB act 1 1000 && inB cln 0 100) && inB val 0 1000000) := by
  simp only [Job.ok, Job.good, Job.numsOk, inB]
  rw [Bool.eq_iff_iff]
  simp only [Bool.and_eq_true, decide_eq_true_eq]
  constructor
  · rintro ⟨a, ⟨⟨⟨⟨b, c⟩, d⟩, e⟩, ⟨⟨f, g⟩, ⟨h, i⟩⟩, j, k⟩, m, n⟩
    exact ⟨⟨⟨a, ⟨⟨b, c⟩, d⟩, e⟩, ⟨⟨f, g⟩, h, i⟩, j, k⟩, m, n⟩
  · rintro ⟨⟨⟨a, ⟨⟨b, c⟩, d⟩, e⟩, ⟨⟨f, g⟩, h, i⟩, j, k⟩, m, n⟩
    exact ⟨a, ⟨⟨⟨⟨b, c⟩, d⟩, e⟩, ⟨⟨f, g⟩, ⟨h, i⟩⟩, j, k⟩, m, n⟩
set_option maxHeartbeats 2000000 in
theorem good_any (nm : ByteArray) (rel dl bud act val cln : Int) (hard : Bool) (w : World) (hs : nm.size ≤ 140737488351232) (hT : Tabs w) :
    Calls Tryd.prog 80 #[.agg #[.string nm, .int .i64 rel, .int .i64 dl, .int .i64 bud, .int .i64 act, .int .i64 val, .int .i64 cln, .bool hard]] w fun e w' => e = .returned (.bool (Job.ok ⟨nm, rel, dl, bud, act, val, cln, hard⟩)) ∧ Below w.heap.size w w' := by
  have HE := hide (Job.ok_eq nm rel dl bud act val cln hard)
  have hb0 := (Below.refl w.heap.size w).alloc (Nat.le_refl _) (.cells #[.string nm, .int .i64 rel, .int .i64 dl, .int .i64 bud, .int .i64 act, .int .i64 val, .int .i64 cln, .bool hard] 39)
  have hT2 := hT.below hb0
  go_enter Tryd.func80, Tryd.ntmps80
  go_wp2_with (first | (go_at_call 117; refine (in_any _ _ _ _).mono ?_; rintro e w' ⟨rfl, rfl⟩) | (go_at_call 118; refine (goodName_any _ _ hs hT2).mono ?_; rintro e w3 ⟨rfl, hb3⟩; obtain ⟨hc3, hf3⟩ := bcell hb3))
  all_goals
    go_ret
    refine ⟨ret_bool ?_, below_then hb0 hb3⟩
    rw [HE.out]
    first | (simp [*]; done) | (simp [*]; omega)

theorem Job.ok_eta (j : Job) : Job.ok ⟨j.name, j.rel, j.dl, j.bud, j.act, j.val, j.cln, j.hard⟩ = j.ok := rfl
theorem allBad_any (nm : ByteArray) (rel dl bud act val cln : Int) (hard : Bool) (w : World) (hs : nm.size ≤ 140737488351232) (hT : Tabs w) :
    Calls Tryd.prog 79 #[.agg #[.string nm, .int .i64 rel, .int .i64 dl, .int .i64 bud, .int .i64 act, .int .i64 val, .int .i64 cln, .bool hard]] w fun e w' => e = .returned (.bool (!(Job.ok ⟨nm, rel, dl, bud, act, val, cln, hard⟩))) ∧ Below w.heap.size w w' := by
  have hb0 := (Below.refl w.heap.size w).alloc (Nat.le_refl _) (.cells #[.string nm, .int .i64 rel, .int .i64 dl, .int .i64 bud, .int .i64 act, .int .i64 val, .int .i64 cln, .bool hard] 39)
  have hT2 := hT.below hb0
  go_enter Tryd.func79, Tryd.ntmps79
  go_wp2_with (go_at_call 80; refine (good_any _ _ _ _ _ _ _ _ _ hs hT2).mono ?_; rintro e w3 ⟨rfl, hb3⟩)
  go_ret
  exact ⟨rfl, below_then hb0 hb3⟩
theorem runs_any (nm : ByteArray) (rel dl bud act val cln : Int) (hard : Bool) (w : World) :
    Calls Tryd.prog 19 #[.agg #[.string nm, .int .i64 rel, .int .i64 dl, .int .i64 bud, .int .i64 act, .int .i64 val, .int .i64 cln, .bool hard]] w fun e w' => e = .returned (.bool (decide (act ≤ bud))) ∧ Below w.heap.size w w' := by
  have hb0 := (Below.refl w.heap.size w).alloc (Nat.le_refl _) (.cells #[.string nm, .int .i64 rel, .int .i64 dl, .int .i64 bud, .int .i64 act, .int .i64 val, .int .i64 cln, .bool hard] 39)
  go_enter Tryd.func19, Tryd.ntmps19
  go_wp2
  go_ret
  exact ⟨rfl, hb0⟩

/-! ### A slice that reads as jobs -/
/-- The eight cells of a job. -/
structure Row (w : World) (b o : Nat) (j : Job) : Prop where
  c0 : w.cell? ⟨b, o, none⟩ = some (.string j.name)
  c1 : w.cell? ⟨b, o + 1, none⟩ = some (.int .i64 j.rel)
  c2 : w.cell? ⟨b, o + 2, none⟩ = some (.int .i64 j.dl)
  c3 : w.cell? ⟨b, o + 3, none⟩ = some (.int .i64 j.bud)
  c4 : w.cell? ⟨b, o + 4, none⟩ = some (.int .i64 j.act)
  c5 : w.cell? ⟨b, o + 5, none⟩ = some (.int .i64 j.val)
  c6 : w.cell? ⟨b, o + 6, none⟩ = some (.int .i64 j.cln)
  c7 : w.cell? ⟨b, o + 7, none⟩ = some (.bool j.hard)
theorem Row.same {w w' : World} {b o : Nat} {j : Job} (h : Row w b o j) (hb : w'.heap[b]? = w.heap[b]?) : Row w' b o j := by
  have e : ∀ k, w'.cell? ⟨b, k, none⟩ = w.cell? ⟨b, k, none⟩ := fun k => World.cell?_of_block hb
  exact ⟨(e _).trans h.c0, (e _).trans h.c1, (e _).trans h.c2, (e _).trans h.c3, (e _).trans h.c4, (e _).trans h.c5, (e _).trans h.c6, (e _).trans h.c7⟩
structure RdJobs (w : World) (A : Option Addr) (b off : Nat) (l : List Job) : Prop where
  len : l.length ≤ 140737488351232
  names : ∀ j ∈ l, j.name.size ≤ 140737488351232
  addr : 0 < l.length → A = some ⟨b, off, none⟩
  lt : 0 < l.length → b < w.heap.size
  row : ∀ i, i < l.length → Row w b (off + i * 8) (Rob.jb l i)
theorem RdJobs.same {w w' : World} {A : Option Addr} {b off : Nat} {l : List Job} (h : RdJobs w A b off l) (hs : w.heap.size ≤ w'.heap.size) (hb : 0 < l.length → w'.heap[b]? = w.heap[b]?) : RdJobs w' A b off l :=
  ⟨h.len, h.names, h.addr, fun h0 => Nat.lt_of_lt_of_le (h.lt h0) hs, fun i hi => (h.row i hi).same (hb (by omega))⟩
theorem RdJobs.below {w w' : World} {A : Option Addr} {b off : Nat} {l : List Job} (h : RdJobs w A b off l) (hb : Below w.heap.size w w') : RdJobs w' A b off l :=
  h.same hb.size fun h0 => hb.block b (h.lt h0)

def IdxBad (l : List Job) (w : World) (e : Ending) (w' : World) : Prop := ∃ r : Int, e = .returned (.int .i64 r) ∧ decide (0 ≤ r) = !(l.all Job.ok) ∧ Below w.heap.size w w'
set_option maxHeartbeats 1000000 in
theorem indexBad_any (A : Option Addr) (b off c : Nat) (l : List Job) (w : World) (R : RdJobs w A b off l) (hT : Tabs w) :
    Calls Tryd.prog 116 #[.slice A l.length c, .func (.func 79) #[] #[]] w (IdxBad l w) := by
  have hn := R.len
  obtain ⟨n, hn'⟩ : ∃ n, n = l.length := ⟨_, rfl⟩
  have HN := hide hn'
  rw [← hn'] at hn ⊢
  clear hn'
  go_enter Tryd.func116, Tryd.ntmps116
  go_wp2
  go_loopw [5, 8] (fun _ i wr => ∃ k : Nat, k ≤ n ∧ i = .int .i64 k ∧ Below w.heap.size w wr ∧ Hid ((l.take k).all Job.ok = true)) (fun _ i _ => n - (intOf i).toNat)
  case atStart => exact ⟨0, by omega, rfl, Below.refl _ _, rfl⟩
  case round =>
    obtain ⟨k, hk, rfl, hb, HA⟩ := hrel
    by_cases hlt : k < n
    · have hl0 : 0 < l.length := by rw [← HN.out]; omega
      have hA := R.addr hl0
      subst hA
      have R2 := R.below hb
      obtain ⟨j0, j1, j2, j3, j4, j5, j6, j7⟩ := R2.row k (by rw [← HN.out]; exact hlt)
      have hnm := R.names (Rob.jb l k) (Rob.jb_mem (by rw [← HN.out]; exact hlt))
      have hT2 := hT.below hb
      have hsn : (l.take (k + 1)).all Job.ok = ((l.take k).all Job.ok && (Rob.jb l k).ok) := by
        rw [List.take_succ_eq_append_getElem (by rw [← HN.out]; exact hlt), List.all_append]
        simp [Rob.jb, List.getD_eq_getElem?_getD, List.getElem?_eq_getElem (show k < l.length by rw [← HN.out]; exact hlt)]
      have HS := hide hsn
      generalize Rob.jb l k = j at j0 j1 j2 j3 j4 j5 j6 j7 hnm HS
      clear hsn
      cases hg : j.ok with
      | true =>
        go_wp2_with (go_at_call 79; refine (allBad_any _ _ _ _ _ _ _ _ _ hnm hT2).mono ?_; rintro e w3 ⟨rfl, hb3⟩; rw [Job.ok_eta, hg])
        go_roundw
        case rel => exact ⟨k + 1, by omega, by go_num, below_then hb hb3, by show _ = _; rw [HS.out, HA.out, hg]; rfl⟩
        case measure => simp [intOf]; omega
      | false =>
        go_wp2_with (go_at_call 79; refine (allBad_any _ _ _ _ _ _ _ _ _ hnm hT2).mono ?_; rintro e w3 ⟨rfl, hb3⟩; rw [Job.ok_eta, hg])
        go_ret
        refine ⟨k, rfl, ?_, below_then hb hb3⟩
        have : l.all Job.ok = false := by
          rw [← List.take_append_drop (k + 1) l, List.all_append, HS.out, hg]; simp
        rw [this]; simp
    · go_wp2
      go_ret
      refine ⟨-1, rfl, ?_, hb⟩
      have : l.all Job.ok = true := by
        have := HA.out
        rwa [List.take_of_length_le (by rw [← HN.out]; omega)] at this
      rw [this]; simp
theorem containsBad_any (A : Option Addr) (b off c : Nat) (l : List Job) (w : World) (R : RdJobs w A b off l) (hT : Tabs w) :
    Calls Tryd.prog 78 #[.slice A l.length c, .func (.func 79) #[] #[]] w fun e w' => e = .returned (.bool (!(l.all Job.ok))) ∧ Below w.heap.size w w' := by
  go_enter Tryd.func78, Tryd.ntmps78
  go_wp2_with (go_at_call 116; refine (indexBad_any A b off c l _ R hT).mono ?_; rintro e w3 ⟨r, rfl, hr, hb3⟩)
  go_ret
  exact ⟨rfl, hb3⟩
/-- Package job's All. -/
def allOk (l : List Job) : Bool := allGood goodName l
theorem all_any (A : Option Addr) (b off c : Nat) (l : List Job) (w : World) (R : RdJobs w A b off l) (hT : Tabs w) :
    Calls Tryd.prog 41 #[.slice A l.length c] w fun e w' => e = .returned (.bool (allOk l)) ∧ Below w.heap.size w w' := by
  have hn := R.len
  by_cases h : l.length ≤ 200
  · go_enter Tryd.func41, Tryd.ntmps41
    go_wp2_with (go_at_call 78; refine (containsBad_any A b off c l _ R hT).mono ?_; rintro e w3 ⟨rfl, hb3⟩)
    go_ret
    exact ⟨ret_bool (by simp [allOk, allGood, h]; rfl), hb3⟩
  · go_enter Tryd.func41, Tryd.ntmps41
    go_wp2_with fail
    go_ret
    exact ⟨ret_bool (by simp [allOk, allGood, h]), Below.refl _ _⟩
end Go.Proofs.YtjgegnjclmkpeaaDoor
