/- Package dover: the walk of Run. -/
import Derived.Test.YtjgegnjclmkpeaaDoorDovW
import Derived.Test.YtjgegnjclmkpeaaDoorByDl
import Derived.Deep.RegionHeld3
set_option linter.unusedVariables false
set_option linter.unusedSimpArgs false
namespace Go.Proofs.YtjgegnjclmkpeaaDoor
open Go.RowKit Go.Sort Go.Proofs

/-- What Run hands back: lists that are its own. -/
structure DOutAt (w : World) (B : Nat) (v : DV) (s : DS) : Prop where
  fa : w.ownsRow B 34 2 (.slice (some ⟨v.bfa, 0, none⟩) s.fa.length v.cfa) s.fa.length (fates s.fa)
  tr : w.ownsRow B 3 1 (.slice v.Atr s.tr.length v.ctr) s.tr.length (ints s.tr)
  al : w.ownsRow B 3 1 (.slice v.Aal s.al.length v.cal) s.al.length (ints s.al)
def doutVal (v : DV) (s : DS) : Value := .agg #[.slice v.Atr s.tr.length v.ctr, .slice (some ⟨v.bfa, 0, none⟩) s.fa.length v.cfa, .slice v.Aal s.al.length v.cal]
/-- The runner ahead of its fates. -/
structure DPre (w0 w : World) (g : Nat) (p q : Int) (A0 : Option Addr) (b0 c0 n : Nat) (l : List Job) (bor bran : Nat) : Prop where
  base : Below w0.heap.size w0 w
  g0 : w0.heap.size ≤ g
  blk : w.heap[g]? = some (.cells #[.int .i64 p, .int .i64 q, .slice A0 n c0, .slice (some ⟨bor, 0, none⟩) n n, .slice (some ⟨bran, 0, none⟩) n n, .slice none 0 0, .slice none 0 0, .slice none 0 0, .int .i64 0] 108 (0, 0))
  jobs : RdJobs w A0 b0 0 l
  jblk : 0 < l.length → ∃ cs fz, w.heap[b0]? = some (.cells cs 39 fz)
  oor : w.ownsRow w0.heap.size 3 1 (.slice (some ⟨bor, 0, none⟩) n n) n (ints (ordI l))
  oran : w.ownsRow w0.heap.size 3 1 (.slice (some ⟨bran, 0, none⟩) n n) n (ints (List.replicate n 0))
  ne : bor ≠ bran
theorem dpre_of {w0 wy : World} {gx b1 c1 n bor bran : Nat} {p q : Int} {A1 : Option Addr} {l : List Job} (hn : l.length = n) (hb : Below w0.heap.size w0 wy) (hg : gx = wy.heap.size) (hj : RdJobs wy A1 b1 0 l) (hjb : 0 < l.length → ∃ cs fz, wy.heap[b1]? = some (.cells cs 39 fz))
    (hi : wy.ownsRow w0.heap.size 3 1 (.slice (some ⟨bor, 0, none⟩) n n) n (ints (ordI l))) (hr : wy.ownsRow w0.heap.size 3 1 (.slice (some ⟨bran, 0, none⟩) n n) n (ints (List.replicate n 0))) (hne : bor ≠ bran) :
    DPre w0 (wy.alloc (.cells #[.int .i64 p, .int .i64 q, .slice A1 l.length c1, .slice (some ⟨bor, 0, none⟩) n n, .slice (some ⟨bran, 0, none⟩) n n, .slice none 0 0, .slice none 0 0, .slice none 0 0, .int .i64 0] 108 (0, 0))) gx p q A1 b1 c1 n l bor bran := by
  subst hg
  have hba := below_alloc (Below.refl _ wy) (.cells #[.int .i64 p, .int .i64 q, .slice A1 l.length c1, .slice (some ⟨bor, 0, none⟩) n n, .slice (some ⟨bran, 0, none⟩) n n, .slice none 0 0, .slice none 0 0, .slice none 0 0, .int .i64 0] 108 (0, 0))
  exact ⟨below_alloc hb _, hb.size, by rw [← hn]; exact heap_alloc_new wy _, hj.below hba, fun h0 => by obtain ⟨cs, fz, e⟩ := hjb h0; exact ⟨cs, fz, by rw [hba.block _ (lt_of_heap e)]; exact e⟩, hi.alloc _, hr.alloc _, hne⟩
/-- The runner, its fates made. -/
theorem DPre.start {w0 w : World} {g b0 c0 n bor bran : Nat} {p q : Int} {A0 : Option Addr} {l : List Job} (h : DPre w0 w g p q A0 b0 c0 n l bor bran) (hn : n = l.length) (hn20 : n < 20) :
    DAt w0 ((w.alloc (.cells (madeCells (Value.agg #[.int .i64 0, .int .i64 0]).cells (n * 2)) 34 (0, 0))).setCell ⟨g, 6, none⟩ (.slice (some ⟨w.heap.size, 0, none⟩) n n)) g p q A0 b0 0 c0 l ⟨bor, n, bran, n, w.heap.size, n, none, 0, none, 0⟩ 0 (Dov.start l) := by
  subst hn
  obtain ⟨W1, hW1⟩ : ∃ W1, W1 = w.alloc (.cells (madeCells (Value.agg #[.int .i64 0, .int .i64 0]).cells (l.length * 2)) 34 (0, 0)) := ⟨_, rfl⟩
  rw [← hW1]
  have hba : Below w.heap.size w W1 := by rw [hW1]; exact below_alloc (Below.refl _ w) _
  have hfa : W1.ownsRow w0.heap.size 34 2 (.slice (some ⟨w.heap.size, 0, none⟩) l.length l.length) l.length (fates (List.replicate l.length (0, 0))) := by
    rw [hW1]; exact own_madeF w _ _ h.base.size (by omega)
  have hblk : W1.heap[g]? = some (.cells #[.int .i64 p, .int .i64 q, .slice A0 l.length c0, .slice (some ⟨bor, 0, none⟩) l.length l.length, .slice (some ⟨bran, 0, none⟩) l.length l.length, .slice none 0 0, .slice none 0 0, .slice none 0 0, .int .i64 0] 108 (0, 0)) := by
    rw [hba.block _ (lt_of_heap h.blk)]; exact h.blk
  have hgs := grown_set W1 g 6 (.slice (some ⟨w.heap.size, 0, none⟩) l.length l.length)
  have keep : ∀ {e : TypeId} {size n : Nat} {y : Value} {xs : List Value}, W1.ownsRow w0.heap.size e size y n xs → e ≠ 108 → (W1.setCell ⟨g, 6, none⟩ (.slice (some ⟨w.heap.size, 0, none⟩) l.length l.length)).ownsRow w0.heap.size e size y n xs :=
    fun ho he => ho.kept hgs (.inr (own_ne_block ho hblk he))
  have hjb := jb_below h.jblk hba
  have hjk : 0 < l.length → (W1.setCell ⟨g, 6, none⟩ (.slice (some ⟨w.heap.size, 0, none⟩) l.length l.length)).heap[b0]? = W1.heap[b0]? := fun h0 => by
    obtain ⟨cs, fz, e⟩ := hjb h0
    refine hgs.block b0 (lt_of_heap e) (fun hh => ?_)
    simp only [Option.some.injEq] at hh
    subst hh
    rw [e] at hblk
    simp only [Option.some.injEq, Obj.cells.injEq] at hblk
    exact absurd hblk.2.1 (by decide)
  have hnil : (W1.setCell ⟨g, 6, none⟩ (.slice (some ⟨w.heap.size, 0, none⟩) l.length l.length)).ownsRow w0.heap.size 3 1 (.slice none 0 0) 0 (ints []) := World.ownsRow_nil _ _ _ _
  refine ⟨(h.base.trans (hba.mono h.base.size)).grown hgs (Nat.le_trans h.base.size hba.size) (fun j hj => by cases hj; exact h.g0), h.g0, ?_, (h.jobs.below hba).same hgs.size hjk, fun h0 => by obtain ⟨cs, fz, e⟩ := hjb h0; exact ⟨cs, fz, by rw [hjk h0]; exact e⟩,
    keep (own_below h.oor hba) (by decide), keep (own_below h.oran hba) (by decide), keep hfa (by decide), hnil, hnil, ⟨h.ne, by simp [ob], by simp [ob], by simp [ob], by simp [ob], .inl rfl⟩⟩
  rw [heap_set_same W1 g 6 _ hblk]
  rfl
/-- The three places at which the row of how often each ran may be made. -/
theorem dpre1 {W0 w2 w3 w4 : World} {n b1 go : Nat} {A1 : Option Addr} {l : List Job} (hn20 : n < 20) (hb2 : Below W0.heap.size W0 w2) (hb3 : Below (w2.drew.alloc (Z1 n)).heap.size (w2.drew.alloc (Z1 n)) w3) (hj3 : RdJobs w3 A1 b1 0 l) (hjb3 : 0 < l.length → ∃ cs fz, w3.heap[b1]? = some (.cells cs 39 fz)) (hb4 : Below w3.heap.size w3 w4)
    (hgo : w3.heap.size ≤ go) (ho4 : w4.ownsRow w3.heap.size 3 1 (.slice (some ⟨go, 0, none⟩) n n) n (ints (ordI l))) :
    Below W0.heap.size W0 w4 ∧ RdJobs w4 A1 b1 0 l ∧ (0 < l.length → ∃ cs fz, w4.heap[b1]? = some (.cells cs 39 fz)) ∧ w4.ownsRow W0.heap.size 3 1 (.slice (some ⟨go, 0, none⟩) n n) n (ints (ordI l)) ∧ w4.ownsRow W0.heap.size 3 1 (.slice (some ⟨w2.heap.size, 0, none⟩) n n) n (ints (List.replicate n 0)) ∧ go ≠ w2.heap.size := by
  have hz : Below w2.heap.size w2 (w2.drew.alloc (Z1 n)) := below_alloc (Below.refl _ w2).drew _
  have h3 := below_then hz hb3
  have hb := below_then hb2 (below_then h3 hb4)
  have hsz : (w2.drew.alloc (Z1 n)).heap.size = w2.heap.size + 1 := by show (w2.heap.push _).size = _; simp
  have hs3 := hb3.size
  have hb2s := hb2.size
  exact ⟨hb, hj3.below hb4, jb_below hjb3 hb4, Joins.ownsRow_le ho4 (by omega), own_below (own_below (own_madeI w2.drew W0.heap.size n hb2s (by omega)) hb3) hb4, by omega⟩
theorem dpre2 {W0 w2 w3 w4 : World} {n b1 go : Nat} {A1 : Option Addr} {l : List Job} (hn20 : n < 20) (hb2 : Below W0.heap.size W0 w2) (hb3 : Below w2.drew.heap.size w2.drew w3) (hj3 : RdJobs w3 A1 b1 0 l) (hjb3 : 0 < l.length → ∃ cs fz, w3.heap[b1]? = some (.cells cs 39 fz)) (hb4 : Below (w3.alloc (Z1 n)).heap.size (w3.alloc (Z1 n)) w4)
    (hgo : (w3.alloc (Z1 n)).heap.size ≤ go) (ho4 : w4.ownsRow (w3.alloc (Z1 n)).heap.size 3 1 (.slice (some ⟨go, 0, none⟩) n n) n (ints (ordI l))) :
    Below W0.heap.size W0 w4 ∧ RdJobs w4 A1 b1 0 l ∧ (0 < l.length → ∃ cs fz, w4.heap[b1]? = some (.cells cs 39 fz)) ∧ w4.ownsRow W0.heap.size 3 1 (.slice (some ⟨go, 0, none⟩) n n) n (ints (ordI l)) ∧ w4.ownsRow W0.heap.size 3 1 (.slice (some ⟨w3.heap.size, 0, none⟩) n n) n (ints (List.replicate n 0)) ∧ go ≠ w3.heap.size := by
  have h3 : Below w2.heap.size w2 w3 := (Below.refl _ w2).drew.trans hb3
  have hz : Below w3.heap.size w3 (w3.alloc (Z1 n)) := below_alloc (Below.refl _ w3) _
  have h34 := below_then hz hb4
  have hb := below_then hb2 (below_then h3 h34)
  have hsz : (w3.alloc (Z1 n)).heap.size = w3.heap.size + 1 := by simp
  have hs3 := h3.size
  have hb2s := hb2.size
  exact ⟨hb, hj3.below h34, jb_below hjb3 h34, Joins.ownsRow_le ho4 (by omega), own_below (own_madeI w3 W0.heap.size n (by omega) (by omega)) hb4, by omega⟩
theorem dpre3 {W0 w2 w3 w4 : World} {n b1 go : Nat} {A1 : Option Addr} {l : List Job} (hn20 : n < 20) (hb2 : Below W0.heap.size W0 w2) (hb3 : Below w2.drew.heap.size w2.drew w3) (hj3 : RdJobs w3 A1 b1 0 l) (hjb3 : 0 < l.length → ∃ cs fz, w3.heap[b1]? = some (.cells cs 39 fz)) (hb4 : Below w3.heap.size w3 w4)
    (hgo : w3.heap.size ≤ go) (ho4 : w4.ownsRow w3.heap.size 3 1 (.slice (some ⟨go, 0, none⟩) n n) n (ints (ordI l))) :
    Below W0.heap.size W0 (w4.alloc (Z1 n)) ∧ RdJobs (w4.alloc (Z1 n)) A1 b1 0 l ∧ (0 < l.length → ∃ cs fz, (w4.alloc (Z1 n)).heap[b1]? = some (.cells cs 39 fz)) ∧ (w4.alloc (Z1 n)).ownsRow W0.heap.size 3 1 (.slice (some ⟨go, 0, none⟩) n n) n (ints (ordI l)) ∧ (w4.alloc (Z1 n)).ownsRow W0.heap.size 3 1 (.slice (some ⟨w4.heap.size, 0, none⟩) n n) n (ints (List.replicate n 0)) ∧ go ≠ w4.heap.size ∧ w4.heap.size + 1 = (w4.alloc (Z1 n)).heap.size := by
  have h3 : Below w2.heap.size w2 w3 := (Below.refl _ w2).drew.trans hb3
  have hz : Below w4.heap.size w4 (w4.alloc (Z1 n)) := below_alloc (Below.refl _ w4) _
  have h34 := below_then hb4 hz
  have hb := below_then hb2 (below_then h3 h34)
  have hsz : (w4.alloc (Z1 n)).heap.size = w4.heap.size + 1 := by simp
  have hs3 := h3.size
  have hs4 := hb4.size
  have hb2s := hb2.size
  have hlt := own_size ho4 (g := go) rfl
  exact ⟨hb, hj3.below h34, jb_below hjb3 h34, own_below (Joins.ownsRow_le ho4 (by omega)) hz, own_madeI w4 W0.heap.size n (by omega) (by omega), by omega, by omega⟩
def ByDlIs (l : List Job) (n : Nat) (w : World) (e : Ending) (w' : World) : Prop := Below w.heap.size w w' ∧ ∃ g, w.heap.size ≤ g ∧ e = .returned (.slice (some ⟨g, 0, none⟩) n n) ∧ w'.ownsRow w.heap.size 3 1 (.slice (some ⟨g, 0, none⟩) n n) n (ints (ordI l))
set_option maxHeartbeats 4000000 in
set_option maxRecDepth 100000 in
theorem dovRun_any (p q : Int) (A : Option Addr) (b off c : Nat) (l : List Job) (w : World) (R : RdJobs w A b off l) (hT : Tabs w) (hok : allOk l = true) (hl20 : l.length < 20) (hr : PQ p q) (hrule : ruleB p q = true) :
    Calls Tryd.prog 28 #[.agg #[.int .i64 p, .int .i64 q], .slice A l.length c] w fun e w' => Below w.heap.size w w' ∧ ∃ v, e = .returned (.tuple #[doutVal v (Dov.run l p q), .int .i64 0]) ∧ DOutAt w' w.heap.size v (Dov.run l p q) := by
  have hn := R.len
  have mixed : Tryd.prog.follows .mixedOrders = true := by kernel_rfl
  obtain ⟨n, hn'⟩ : ∃ n, n = l.length := ⟨_, rfl⟩
  have HN := hide hn'
  have hrl : ∀ W, _ := fun W => rule_any p q W
  rw [hrule] at hrl
  have HRL : Aside0 _ := ⟨hrl⟩
  have hall : ∀ W, Below w.heap.size w W → Calls Tryd.prog 41 #[.slice A n c] W fun e w' => e = .returned (.bool true) ∧ Below W.heap.size W w' := fun W hW => by
    have := all_any A b off c l W (R.below hW) (hT.below hW)
    rw [hok, ← hn'] at this
    exact this
  have hclone : ∀ W, Below w.heap.size w W → Calls Tryd.prog 51 #[.slice A n c] W (CloneIs l W) := fun W hW => by
    have := cloneJob_any A b off c l W (R.below hW) (by omega)
    rw [← hn'] at this
    exact this
  have hbyd : ∀ W, Below w.heap.size w W → Calls Tryd.prog 64 #[.slice A n c] W (ByDlIs l n W) := fun W hW => by
    have := byDl_any (c0 := c) W (R.below hW) hl20
    rw [← hn'] at this
    exact this
  have hend : ∀ W, Below w.heap.size w W → Calls Tryd.prog 24 #[.slice A n c] W fun e w' => e = .returned (.int .i64 (endOf l)) ∧ Below W.heap.size W w' := fun W hW => by
    have := end_any A b off c l W (R.below hW) (hT.below hW) hok
    rw [← hn'] at this
    exact this
  have HALL : Aside0 _ := ⟨hall⟩
  have HCLONE : Aside0 _ := ⟨hclone⟩
  have HBYD : Aside0 _ := ⟨hbyd⟩
  have HEND : Aside0 _ := ⟨hend⟩
  have hmk := made_int n (by omega)
  have HMK : Aside0 _ := ⟨hmk⟩
  obtain ⟨W0, hW0⟩ : ∃ W0, W0 = (w.alloc (.cells #[.int .i64 p, .int .i64 q] 45 (0, 0))).alloc (.cells #[.slice none 0 0, .slice none 0 0, .slice none 0 0] 48 (0, 0)) := ⟨_, rfl⟩
  have hb0 : Below w.heap.size w W0 := by rw [hW0]; exact below_alloc (below_alloc (Below.refl _ w) _) _
  have hrc : W0.cell? ⟨w.heap.size, 0, none⟩ = some (.int .i64 p) ∧ W0.cell? ⟨w.heap.size, 1, none⟩ = some (.int .i64 q) ∧ w.heap.size < W0.heap.size := by rw [hW0]; refine ⟨by simp, by simp, by simp; omega⟩
  obtain ⟨r0, r1, r2⟩ := hrc
  have HB0 : Aside0 _ := ⟨hb0⟩
  have HW0 := hide hW0
  rw [← hn'] at hn hl20
  clear hn' hall hclone hend hmk R hbyd hrl hb0 hW0
  rw [← HN.out]
  go_enter Tryd.func28, Tryd.ntmps28
  go_wp2_with fail
  rw [← HW0.out]
  go_at_call 27
  refine (HRL.out W0).mono ?_
  rintro e w1 ⟨rfl, hb1⟩
  have s0 := (hb1.cell (p := ⟨w.heap.size, 0, none⟩) r2).trans r0
  have s1 := (hb1.cell (p := ⟨w.heap.size, 1, none⟩) r2).trans r1
  have s2 := Nat.lt_of_lt_of_le r2 hb1.size
  go_wp2_with (go_at_call 41; refine (HALL.out _ (below_then HB0.out hb1)).mono ?_; rintro e w2 ⟨rfl, hb2⟩)
  have u0 := (hb2.cell (p := ⟨w.heap.size, 0, none⟩) s2).trans s0
  have u1 := (hb2.cell (p := ⟨w.heap.size, 1, none⟩) s2).trans s1
  have u2 := Nat.lt_of_lt_of_le s2 hb2.size
  have HB2 : Aside0 _ := ⟨below_then hb1 hb2⟩
  clear r0 r1 r2 s0 s1 s2 hb1 hb2
  have hkeep : ∀ W W' : World, (Below w2.heap.size w2 W ∧ W.cell? ⟨w.heap.size, 0, none⟩ = some (.int .i64 p) ∧ W.cell? ⟨w.heap.size, 1, none⟩ = some (.int .i64 q)) → Below W.heap.size W W' → (Below w2.heap.size w2 W' ∧ W'.cell? ⟨w.heap.size, 0, none⟩ = some (.int .i64 p) ∧ W'.cell? ⟨w.heap.size, 1, none⟩ = some (.int .i64 q)) := by
    rintro W W' ⟨a, c0, c1⟩ hb
    have hlt := Nat.lt_of_lt_of_le u2 a.size
    exact ⟨below_then a hb, (hb.cell (p := ⟨w.heap.size, 0, none⟩) hlt).trans c0, (hb.cell (p := ⟨w.heap.size, 1, none⟩) hlt).trans c1⟩
  have HKEEP : Aside0 _ := ⟨hkeep⟩
  have HBW : Aside0 _ := ⟨below_then HB0.out HB2.out⟩
  have hmk := HMK.out
  clear hkeep
  go_cut [6] from 18 to 27 (fun x wx => ∃ gx A1 b1 c1 bor bran, x = .pointer (some ⟨gx, 0, none⟩) ∧ DPre W0 wx gx p q A1 b1 c1 n l bor bran)
  case first =>
    go_region_held3 (fun w' => Below w2.heap.size w2 w' ∧ w'.cell? ⟨w.heap.size, 0, none⟩ = some (.int .i64 p) ∧ w'.cell? ⟨w.heap.size, 1, none⟩ = some (.int .i64 q))
      (first | exact ⟨(Below.refl _ w2).drew, u0, u1⟩ | exact HKEEP.out _ _ (by assumption) hb4 | exact HKEEP.out _ _ (by assumption) hb3 | exact HKEEP.out _ _ (by assumption) (below_alloc (Below.refl _ _) _))
      (first | (go_at_call 51; refine (HCLONE.out _ (below_then HBW.out (by go_split_ands; assumption))).mono ?_; rintro e w3 ⟨A1, b1, c1, rfl, hb3, hj3, hjb3⟩) | (go_at_call 64; refine (HBYD.out _ (below_then HBW.out (by go_split_ands; assumption))).mono ?_; rintro e w4 ⟨hb4, go, hgo, rfl, ho4⟩))
    all_goals (go_wp2_with fail; go_meet)
    all_goals first
      | (obtain ⟨p1, p2, p3, p4, p5, p6⟩ := dpre1 hl20 HB2.out hb3 hj3 hjb3 hb4 hgo ho4
         exact ⟨_, A1, b1, c1, _, _, rfl, dpre_of HN.out.symm p1 rfl p2 p3 p4 p5 p6⟩)
      | (obtain ⟨p1, p2, p3, p4, p5, p6⟩ := dpre2 hl20 HB2.out hb3 hj3 hjb3 hb4 hgo ho4
         exact ⟨_, A1, b1, c1, _, _, rfl, dpre_of HN.out.symm p1 rfl p2 p3 p4 p5 p6⟩)
      | (obtain ⟨p1, p2, p3, p4, p5, p6, p7⟩ := dpre3 hl20 HB2.out hb3 hj3 hjb3 hb4 hgo ho4
         exact ⟨_, A1, b1, c1, _, _, rfl, dpre_of HN.out.symm p1 p7 p2 p3 p4 p5 p6⟩)
  case rest =>
    obtain ⟨gx, A1, b1, c1, bor, bran, rfl, hP⟩ := hcut
    have hT0 := hT.below HB0.out
    have hc6 := cell_of_heap (o := 6) hP.blk
    have hc8 := cell_of_heap (o := 8) hP.blk
    have hf := fun o => free_of_heap (o := o) hP.blk
    have hf6 := hf 6
    have hf8 := hf 8
    have hgx := lt_of_heap hP.blk
    have hst := hP.start HN.out hl20
    rw [World.setCell_alloc_past _ _ _ _ (lt_of_heap hP.blk)] at hst
    have hmf := made_fate n (by omega)
    have HST : Aside0 _ := ⟨hst⟩
    have HT0 : Aside0 _ := ⟨hT0⟩
    have hE0 := endOf_nonneg l
    have hcell6 : wc.cell? ⟨gx, 6, none⟩ = some (.slice none 0 0) := hc6
    have hcell8 : wc.cell? ⟨gx, 8, none⟩ = some (.int .i64 0) := hc8
    have hgne : gx ≠ wc.heap.size := by omega
    clear hP hc6 hc8 hf hst hT0 hmk u0 u1 u2 HKEEP HMK HCLONE HBYD HALL HRL
    go_wp2_with (go_at_call 24; refine (HEND.out _ (below_then HB0.out HST.out.base)).mono ?_; rintro e w4 ⟨rfl, hb4⟩; have hR4 := HST.out.below hb4; obtain ⟨-, -, -, -, -, -, -, -, t8⟩ := hR4.cells; have ft8 := hR4.free 8; have HR4 : Aside0 _ := ⟨hR4⟩; clear hR4)
    have hokj : ∀ j ∈ l, j.ok = true := by
      have := hok
      unfold allOk allGood at this
      simp only [Bool.and_eq_true, List.all_eq_true] at this
      exact this.2
    have HOKJ := hide hokj
    have hE1 : endOf l ≤ 10000 := endOf_le (by omega) (fun j hj => (Job.ok_of_good (hokj j hj)).dl1)
    have hset := HR4.out.set_tick 0
    have HSET : Aside0 _ := ⟨hset⟩
    obtain ⟨E, hEE⟩ : ∃ E : Nat, endOf l = E := ⟨(endOf l).toNat, by omega⟩
    rw [hEE] at hE0 hE1
    rw [hEE]
    have HEE := hide hEE
    have hinv0 := Dov.inv_start (l := l) (allGood_ok hok) (by rw [← HN.out]; omega)
    have HINV0 := hide hinv0
    clear hset hokj hEE t8 ft8 hb4 hmf hcell6 hcell8 hgne hf6 hf8 hinv0
    generalize w4.setCell ⟨gx, 8, none⟩ (.int .i64 0) = w5 at *
    generalize hv5 : (⟨bor, n, bran, n, wc.heap.size, n, none, 0, none, 0⟩ : DV) = v5 at *
    clear hv5
    go_loopg [45] (E + 1) (fun gk _ wr => ∃ (tn : Nat) (sk : DS) (v' : DV), tn + gk = E + 1 ∧ tn ≤ E ∧ Aside0 (DAt W0 wr gx p q A1 b1 0 c1 l v' tn sk) ∧ Hid (sk = (List.range tn).foldl (Dov.tick l p q) (Dov.start l)) ∧ Hid (Dov.Inv l tn sk) ∧ sk.al.length ≤ tn * 21)
    case atStart => exact ⟨0, _, v5, by omega, by omega, HSET, rfl, HINV0, by simp [Dov.start]⟩
    case round =>
      obtain ⟨tn, sk, v', htn, htE, HR, HS, HI, hal⟩ := hrel
      obtain ⟨-, -, -, -, -, -, -, -, d8⟩ := HR.out.cells
      by_cases hlt : tn < E
      · have hltz : (tn : Int) < (E : Int) := by omega
        have hran : ∀ i, i < l.length → 0 ≤ Dov.ranAt sk i ∧ Dov.ranAt sk i ≤ tn := fun i hi => by
          have h1 := HI.out.cnt i hi
          have h2 := HI.out.tlen
          have h3 : sk.tr.count (i : Int) ≤ sk.tr.length := List.count_le_length
          omega
        have HRAN := hide hran
        obtain ⟨x1, x2, x3⟩ := Dov.expire_spec HI.out
        have hexr : (Dov.expire l tn sk).ran = sk.ran ∧ (Dov.expire l tn sk).tr = sk.tr ∧ (Dov.expire l tn sk).fa.length = l.length := by
          refine ⟨?_, ?_, x1.lfa⟩
          · have := foldl_range_inv (Dov.exp1 l tn) l.length (fun _ z => z.ran = sk.ran) sk rfl (fun k z _ hz => by unfold Dov.exp1; split <;> exact hz)
            exact this
          · have := foldl_range_inv (Dov.exp1 l tn) l.length (fun _ z => z.tr = sk.tr) sk rfl (fun k z _ hz => by unfold Dov.exp1; split <;> exact hz)
            exact this
        have HEXR := hide hexr
        have hexp := dexpire_any HR.out (by omega) (by omega)
        have HEXP : Aside0 _ := ⟨hexp⟩
        have hxal : (Dov.expire l tn sk).al.length ≤ tn * 21 := by rw [x3]; exact hal
        have htr := HI.out.tlen
        have htick : (List.range (tn + 1)).foldl (Dov.tick l p q) (Dov.start l) = Dov.runTick l tn (Dov.rings l p q tn (l.length + 1) (Dov.expire l tn sk)) := by
          rw [foldl_range_succ, ← HS.out]; rfl
        have HTICK := hide htick
        have hinv1 : Dov.Inv l (tn + 1) (Dov.runTick l tn (Dov.rings l p q tn (l.length + 1) (Dov.expire l tn sk))) := Dov.tick_spec p q HI.out
        have HINV1 := hide hinv1
        have hal1 : (Dov.runTick l tn (Dov.rings l p q tn (l.length + 1) (Dov.expire l tn sk))).al.length ≤ tn * 21 + 21 := by
          have := Dov.tick_al p q HI.out
          unfold Dov.tick at this
          have hln : l.length < 20 := by rw [← HN.out]; exact hl20
          omega
        have HAL1 := hide hal1
        have HTR := hide htr
        clear hran x1 x2 x3 hexr hexp htick hinv1 hal1 htr
        go_wp2_with (go_at_call 65; refine HEXP.out.mono ?_; rintro e w6 ⟨rfl, hr6⟩; have HR6 : Aside0 _ := ⟨hr6⟩; clear hr6)
        clear hltz d8
        generalize hsE : Dov.expire l tn sk = sE at *
        clear hsE
        obtain ⟨GK, hGK⟩ : ∃ GK, GK = gk := ⟨_, rfl⟩
        rw [← hGK] at htn
        have HGK := hide hGK
        clear hGK
        have hlc := Dov.liveCount_le l tn sE
        have HLC := hide hlc
        clear hlc
        go_loopg [56] (n + 1) (fun gf _ wr2 => ∃ (s2 : DS) (v2 : DV), Aside0 (DAt W0 wr2 gx p q A1 b1 0 c1 l v2 tn s2) ∧ Hid (Dov.rings l p q tn (l.length + 1) sE = Dov.rings l p q tn gf s2) ∧ Hid (s2.ran = sk.ran ∧ s2.tr = sk.tr ∧ s2.fa.length = l.length) ∧ Hid (Dov.liveCount l tn s2 < gf) ∧ s2.al.length + gf ≤ tn * 21 + n + 1)
        case atStart => exact ⟨sE, v', HR6, by show _ = _; rw [HN.out], HEXR, by show _ < _; have := HLC.out; rw [HN.out]; omega, by omega⟩
        case round =>
          obtain ⟨s2, v2, HR2, HG, HE2, HL2, hal2⟩ := hrel
          have F2 : DFine l tn s2 := ⟨HOKJ.out, fun i hi => by
            have h1 := HRAN.out i hi
            have h2 : Dov.ranAt s2 i = Dov.ranAt sk i := by unfold Dov.ranAt; rw [HE2.out.1]
            rw [h2]; omega, by omega, by omega⟩
          have hring := dring_any HR2.out HT0.out hr F2 (by rw [← HN.out]; exact hl20) (by omega)
          have HRING : Aside0 _ := ⟨hring⟩
          have HF2 : Aside0 _ := ⟨F2⟩
          clear hring F2
          go_wp2_with fail
          go_at_call 66
          refine HRING.out.mono ?_
          rintro e w7 (⟨rfl, hnone, v3, hr3⟩ | ⟨rfl, s3, hsome, v3, hr3⟩)
          · have hfin : Dov.rings l p q tn (l.length + 1) sE = s2 := by rw [HG.out]; exact Dov.rings_none _ hnone
            have HFIN := hide hfin
            have hrun := drun_any hr3 HT0.out HF2.out (fun i hi => by
              have h1 := HRAN.out i hi
              have h2 : Dov.ranAt s2 i = Dov.ranAt sk i := by unfold Dov.ranAt; rw [HE2.out.1]
              rw [h2]; omega) (by rw [← HN.out]; exact hl20) (by rw [HE2.out.2.1, HTR.out]; omega)
            have HRUN : Aside0 _ := ⟨hrun⟩
            clear hfin hrun hr3 hnone
            go_wp2_with (go_at_call 67; refine HRUN.out.mono ?_; rintro e w9 ⟨rfl, v9, hr9⟩; obtain ⟨-, -, -, -, -, -, -, -, y8⟩ := hr9.cells; have fy8 := hr9.free 8; have HR9 : Aside0 _ := ⟨hr9.set_tick (tn + 1)⟩; clear hr9)
            go_roundg (GK - 1)
            case rel => exact ⟨tn + 1, _, v9, by omega, by omega, ⟨by rw [show (((tn + 1 : Nat) : Int)) = (tn : Int) + 1 by omega]; exact HR9.out⟩, by show _ = _; rw [HTICK.out, HFIN.out], by have := HINV1.out; rw [HFIN.out] at this; exact this, by have := HAL1.out; rw [HFIN.out] at this; omega⟩
            case measure => have := HGK.out; omega
          · have hsh := Dov.ring_shed HE2.out.2.2 hsome
            have hfew := hsh.fewer
            have hal3 := Dov.ring_al HE2.out.2.2 hsome
            have hlt2 := HL2.out
            obtain ⟨gf', rfl⟩ : ∃ gf', gk = gf' + 1 := ⟨gk - 1, by omega⟩
            have hg3 := HG.out
            rw [Dov.rings_some _ hsome] at hg3
            have HG3 := hide hg3
            have HSH : Aside0 _ := ⟨hsh⟩
            have HR3 : Aside0 _ := ⟨hr3⟩
            have HFEW := hide hfew
            clear hsh hfew hlt2 hg3 hr3 hsome
            go_wp2
            go_roundg gf'
            case rel => exact ⟨s3, v3, HR3, HG3, by show _ ∧ _ ∧ _; exact ⟨HSH.out.ran.trans HE2.out.1, HSH.out.tr.trans HE2.out.2.1, HSH.out.len.trans HE2.out.2.2⟩, by show _ < _; have := HL2.out; have := HFEW.out; omega, by omega⟩
            case measure => omega
      · obtain rfl : tn = E := by omega
        have hrun : (List.range l.length).foldl (Dov.last1 tn) sk = Dov.run l p q := by
          unfold Dov.run
          rw [HEE.out, Int.toNat_natCast, ← HS.out]
        have HRUN := hide hrun
        have hW0s : W0.heap.size = w.heap.size + 1 + 1 := by rw [HW0.out]; simp
        have hbr : ∀ wr2, Below W0.heap.size W0 wr2 → wr2.heap[w.heap.size + 1]? = some (.cells #[.slice none 0 0, .slice none 0 0, .slice none 0 0] 48 (0, 0)) := fun wr2 hb => by
          rw [hb.block _ (by omega), HW0.out]
          have := heap_alloc_new (w.alloc (.cells #[.int .i64 p, .int .i64 q] 45 (0, 0))) (.cells #[.slice none 0 0, .slice none 0 0, .slice none 0 0] 48 (0, 0))
          rw [show (w.alloc (.cells #[.int .i64 p, .int .i64 q] 45 (0, 0))).heap.size = w.heap.size + 1 by simp] at this
          exact this
        have HBR : Aside0 _ := ⟨hbr⟩
        have HW0S := hide hW0s
        clear hrun hbr hW0s
        go_wp2_with fail
        clear d8
        go_loopw [8, 61] (fun _ i wr2 => ∃ k : Nat, k ≤ n ∧ i = .int .i64 k ∧ ∃ s3 : DS, Aside0 (DAt W0 wr2 gx p q A1 b1 0 c1 l v' tn s3) ∧ Hid (s3 = (List.range k).foldl (Dov.last1 tn) sk)) (fun _ i _ => n - (intOf i).toNat)
        case atStart => exact ⟨0, by omega, rfl, sk, HR, rfl⟩
        case round =>
          obtain ⟨k, hk, rfl, s3, HR3, HS3⟩ := hrel
          by_cases hkn : k < n
          · have hkl : k < l.length := by rw [← HN.out]; exact hkn
            obtain ⟨-, -, -, -, -, -, d6, -, -⟩ := HR3.out.cells
            have hkd := (HR3.out.cfa k hkl).1
            rw [← HN.out] at d6
            have hstep : (List.range (k + 1)).foldl (Dov.last1 tn) sk = if Dov.kindAt s3 k = 0 then Dov.say s3 k 5 tn else s3 := by rw [foldl_range_succ, ← HS3.out]; rfl
            have HSTEP := hide hstep
            have hkz : (k : Int) < (n : Int) := by omega
            clear hstep
            generalize Dov.kindAt s3 k = kd at hkd HSTEP
            by_cases ho : kd = 0
            · subst ho
              have hsay := dsay_any HR3.out k hkl 5 0 (by omega) (by omega) (by omega) (by omega)
              rw [Int.add_zero] at hsay
              have HSAY : Aside0 _ := ⟨hsay⟩
              clear hsay
              go_wp2_with (go_at_call 68; refine HSAY.out.mono ?_; rintro e w8 ⟨rfl, hr8, hg8⟩)
              go_roundw
              case rel => exact ⟨k + 1, by omega, by go_num, _, ⟨hr8⟩, by show _ = _; rw [HSTEP.out]; rfl⟩
              case measure => simp [intOf]; omega
            · have hob : (kd == 0) = false := beq_eq_false_iff_ne.2 ho
              have HOB := hide ho
              go_wp2
              go_roundw
              case rel => exact ⟨k + 1, by omega, by go_num, s3, HR3, by show _ = _; rw [HSTEP.out, if_neg HOB.out]⟩
              case measure => simp [intOf]; omega
          · obtain rfl : k = n := by omega
            rw [HN.out, HRUN.out] at HS3
            have hbk := HBR.out wr HR3.out.base
            have q0 := cell_of_heap (o := 0) hbk
            have q1 := cell_of_heap (o := 1) hbk
            have q2 := cell_of_heap (o := 2) hbk
            have hfr := fun o => free_of_heap (o := o) hbk
            have p0 := hfr 0
            have p1 := hfr 1
            have p2 := hfr 2
            obtain ⟨-, -, -, -, -, x5, x6, x7, -⟩ := HR3.out.cells
            have hrb := lt_of_heap hbk
            replace q0 : wr.cell? ⟨w.heap.size + 1, 0, none⟩ = some (.slice none 0 0) := q0
            replace q1 : wr.cell? ⟨w.heap.size + 1, 1, none⟩ = some (.slice none 0 0) := q1
            replace q2 : wr.cell? ⟨w.heap.size + 1, 2, none⟩ = some (.slice none 0 0) := q2
            clear hfr hbk
            go_wp2
            have hbk := HBR.out wr HR3.out.base
            have hs1 := heap_set_same wr (w.heap.size + 1) 0 (.slice v'.Atr s3.tr.length v'.ctr) hbk
            have hs2 := heap_set_same _ (w.heap.size + 1) 1 (.slice (some ⟨v'.bfa, 0, none⟩) l.length v'.cfa) hs1
            have hs3 := heap_set_same _ (w.heap.size + 1) 2 (.slice v'.Aal s3.al.length v'.cal) hs2
            have hrbB : w.heap.size + 1 < W0.heap.size := by have := HW0S.out; omega
            have hbelow : Below w.heap.size w (((wr.setCell ⟨w.heap.size + 1, 0, none⟩ (.slice v'.Atr s3.tr.length v'.ctr)).setCell ⟨w.heap.size + 1, 1, none⟩ (.slice (some ⟨v'.bfa, 0, none⟩) l.length v'.cfa)).setCell ⟨w.heap.size + 1, 2, none⟩ (.slice v'.Aal s3.al.length v'.cal)) := by
              have hb := below_then HB0.out HR3.out.base
              exact ((hb.setCell (Nat.le_succ w.heap.size) _).setCell (Nat.le_succ w.heap.size) _).setCell (Nat.le_succ w.heap.size) _
            have hset3 : ∀ {e : TypeId} {sz n' : Nat} {y : Value} {xs : List Value}, wr.ownsRow W0.heap.size e sz y n' xs → (((wr.setCell ⟨w.heap.size + 1, 0, none⟩ (.slice v'.Atr s3.tr.length v'.ctr)).setCell ⟨w.heap.size + 1, 1, none⟩ (.slice (some ⟨v'.bfa, 0, none⟩) l.length v'.cfa)).setCell ⟨w.heap.size + 1, 2, none⟩ (.slice v'.Aal s3.al.length v'.cal)).ownsRow w.heap.size e sz y n' xs := fun ho => by
              have h1 := ownsRow_setCell_below ho (a := ⟨w.heap.size + 1, 0, none⟩) hrbB (.slice v'.Atr s3.tr.length v'.ctr)
              have h2 := ownsRow_setCell_below h1 (a := ⟨w.heap.size + 1, 1, none⟩) hrbB (.slice (some ⟨v'.bfa, 0, none⟩) l.length v'.cfa)
              have h3 := ownsRow_setCell_below h2 (a := ⟨w.heap.size + 1, 2, none⟩) hrbB (.slice v'.Aal s3.al.length v'.cal)
              exact Joins.ownsRow_le h3 (by have := HW0S.out; omega)
            have hOut : DOutAt (((wr.setCell ⟨w.heap.size + 1, 0, none⟩ (.slice v'.Atr s3.tr.length v'.ctr)).setCell ⟨w.heap.size + 1, 1, none⟩ (.slice (some ⟨v'.bfa, 0, none⟩) l.length v'.cfa)).setCell ⟨w.heap.size + 1, 2, none⟩ (.slice v'.Aal s3.al.length v'.cal)) w.heap.size v' s3 := ⟨hset3 (by rw [HR3.out.lfa]; exact HR3.out.ofa), hset3 HR3.out.otr, hset3 HR3.out.oal⟩
            have z0 := cell_of_heap (o := 0) hs3
            have z1 := cell_of_heap (o := 1) hs3
            have z2 := cell_of_heap (o := 2) hs3
            have hlfa : l.length = s3.fa.length := HR3.out.lfa.symm
            have HOUT : Aside0 _ := ⟨And.intro hbelow hOut⟩
            clear hs1 hs2 hs3 hbk hbelow hOut hset3
            generalize (((wr.setCell ⟨w.heap.size + 1, 0, none⟩ (.slice v'.Atr s3.tr.length v'.ctr)).setCell ⟨w.heap.size + 1, 1, none⟩ (.slice (some ⟨v'.bfa, 0, none⟩) l.length v'.cfa)).setCell ⟨w.heap.size + 1, 2, none⟩ (.slice v'.Aal s3.al.length v'.cal)) = Wf at *
            replace z0 : Wf.cell? ⟨w.heap.size + 1, 0, none⟩ = some (.slice v'.Atr s3.tr.length v'.ctr) := z0
            replace z1 : Wf.cell? ⟨w.heap.size + 1, 1, none⟩ = some (.slice (some ⟨v'.bfa, 0, none⟩) l.length v'.cfa) := z1
            replace z2 : Wf.cell? ⟨w.heap.size + 1, 2, none⟩ = some (.slice v'.Aal s3.al.length v'.cal) := z2
            refine bodyPost_ret (v := .tuple #[doutVal v' s3, .int .i64 0]) ?_ rfl ⟨HOUT.out.1, v', by rw [← HS3.out], by rw [← HS3.out]; exact HOUT.out.2⟩
            rw [hlfa] at z1
            unfold doutVal
            simp [results, show Tryd.f28.results = #[.cell 4 48, .tmp 5] from rfl, go_sem, z0, z1, z2]
end Go.Proofs.YtjgegnjclmkpeaaDoor
