/- Packages num and surd: the walks that the Dover rule wants: CmpMul of numbers not below 0, Above, Bound, the rule's Good. surd.Sign, surd.Above, surd.Bound. -/
import Derived.Test.YtjgegnjclmkpeaaDoorTraceGood
import Derived.Test.YtjgegnjclmkpeaaDoorShelfb
import Derived.Test.YtjgegnjclmkpeaaDoorDovTwo
import Derived.IntWalk
set_option linter.unusedVariables false
set_option linter.unusedSimpArgs false
namespace Go.Proofs.YtjgegnjclmkpeaaDoor
open Go.RowKit
theorem mul64_any (x y : Nat) (hx : x < 18446744073709551616) (hy : y < 18446744073709551616) (w : World) :
    Calls Tryd.prog 136 #[.int .u64 x, .int .u64 y] w fun e w' => e = .returned (.tuple #[.int .u64 ((x * y / 18446744073709551616 : Nat) : Int), .int .u64 ((x * y % 18446744073709551616 : Nat) : Int)]) ∧ w = w' :=
  (Go.Proofs.Any.bits_Mul64 Tryd.laysMul64 x y hx hy w).mono fun _ _ ⟨a, b⟩ => ⟨a, b.symm⟩
set_option maxRecDepth 100000 in
theorem nside_any (x : Nat) (hx : x ≤ 9223372036854775807) (w : World) :
    Calls Tryd.prog 137 #[.int .i64 x] w fun e w' => e = .returned (.int .u64 x) ∧ w = w' := by
  have h0 : ¬ ((x : Int) < 0) := by omega
  have hw : IntKind.u64.wrap (x : Int) = x := by simp [IntKind.wrap, IntKind.bits, IntKind.signed]; omega
  clear hx
  go_enter Tryd.func137, Tryd.ntmps137
  go_wp2
  go_ret
  exact ⟨by first | rfl | rw [hw], rfl⟩
def hiOf (x y : Nat) : Int := ((x * y / 18446744073709551616 : Nat) : Int)
def loOf (x y : Nat) : Int := ((x * y % 18446744073709551616 : Nat) : Int)
set_option maxRecDepth 100000 in
theorem product_any (x y : Nat) (hx : x ≤ 9223372036854775807) (hy : y ≤ 9223372036854775807) (w : World) :
    Calls Tryd.prog 109 #[.int .i64 x, .int .i64 y] w fun e w' => e = .returned (.agg #[.bool false, .int .u64 (hiOf x y), .int .u64 (loOf x y)]) ∧ Below w.heap.size w w' := by
  have hm := fun W => mul64_any x y (by omega) (by omega) W
  have hb := hide (show ∀ z, z = w.alloc (.cells #[.bool false, .int .u64 (hiOf x y), .int .u64 (loOf x y)] 148 (0, 0)) → Below w.heap.size w z from fun z hz => by rw [hz]; exact below_alloc (Below.refl _ w) _)
  change ∀ W, Calls _ _ _ W fun e w' => e = .returned (.tuple #[.int .u64 (hiOf x y), .int .u64 (loOf x y)]) ∧ W = w' at hm
  have HM : Aside0 _ := ⟨hm⟩
  clear hm
  generalize hiOf x y = hi at *
  generalize loOf x y = lo at *
  have h0 : ¬ ((x : Int) < 0) := by omega
  have h1 : ¬ ((y : Int) < 0) := by omega
  have HX := hide hx
  have HY := hide hy
  clear hx hy
  go_enter Tryd.func109, Tryd.ntmps109
  go_wp2_with fail
  go_at_call 137
  refine (nside_any x HX.out _).mono ?_
  rintro e w1 ⟨rfl, rfl⟩
  go_wp2_with fail
  go_at_call 137
  refine (nside_any y HY.out _).mono ?_
  rintro e w1 ⟨rfl, rfl⟩
  go_wp2_with (go_at_call 136; refine (HM.out _).mono ?_; rintro e w2 ⟨rfl, rfl⟩)
  exact bodyPost_ret (v := .agg #[.bool false, .int .u64 hi, .int .u64 lo]) (by simp [results, show Tryd.f109.results = #[.cell 4 148] from rfl, go_sem]) rfl ⟨rfl, hb.out _ rfl⟩
/-- How one number of 128 bits compares to another. -/
def cmp3 (x y : Nat) : Int := if x < y then -1 else if x = y then 0 else 1
theorem cmp3_lt {a b : Nat} (h : a < b) : cmp3 a b = -1 := if_pos h
theorem cmp3_eq (a : Nat) : cmp3 a a = 0 := by unfold cmp3; rw [if_neg (Nat.lt_irrefl a), if_pos rfl]
theorem cmp3_gt {a b : Nat} (h : b < a) : cmp3 a b = 1 := by unfold cmp3; rw [if_neg (by omega), if_neg (by omega)]
set_option maxHeartbeats 1000000 in
theorem nover_any (b1 b2 : Bool) (h1 l1 h2 l2 : Int) (r : Int) (hr : (h1 < h2 ∧ r = -1) ∨ (h1 = h2 ∧ l1 < l2 ∧ r = -1) ∨ (h1 = h2 ∧ l1 = l2 ∧ r = 0) ∨ (h2 < h1 ∧ r = 1) ∨ (h1 = h2 ∧ l2 < l1 ∧ r = 1)) (w : World) :
    Calls Tryd.prog 110 #[.agg #[.bool b1, .int .u64 h1, .int .u64 l1], .agg #[.bool b2, .int .u64 h2, .int .u64 l2]] w fun e w' => e = .returned (.int .i64 r) ∧ Below w.heap.size w w' := by
  have hb : Below w.heap.size w ((w.alloc (.cells #[.bool b1, .int .u64 h1, .int .u64 l1] 148 (0, 0))).alloc (.cells #[.bool b2, .int .u64 h2, .int .u64 l2] 148 (0, 0))) := below_alloc (below_alloc (Below.refl _ w) _) _
  have HB : Aside0 _ := ⟨hb⟩
  clear hb
  rcases hr with ⟨a, rfl⟩ | ⟨rfl, a, rfl⟩ | ⟨rfl, rfl, rfl⟩ | ⟨a, rfl⟩ | ⟨rfl, a, rfl⟩
  · have e1 : (h1 == h2) = false := beq_eq_false_iff_ne.2 (by omega)
    have e2 : (h1 != h2) = true := by simp; omega
    go_enter Tryd.func110, Tryd.ntmps110
    go_wp2
    go_ret
    exact ⟨rfl, HB.out⟩
  · have e1 : (h1 == h1) = true := by simp
    have e2 : (h1 != h1) = false := by simp
    go_enter Tryd.func110, Tryd.ntmps110
    go_wp2
    go_ret
    exact ⟨rfl, HB.out⟩
  · have e1 : (h1 == h1) = true := by simp
    have e2 : (h1 != h1) = false := by simp
    have e3 : ¬ (l1 < l1) := by omega
    have e4 : (l1 == l1) = true := by simp
    go_enter Tryd.func110, Tryd.ntmps110
    go_wp2
    go_ret
    exact ⟨rfl, HB.out⟩
  · have e1 : (h1 == h2) = false := beq_eq_false_iff_ne.2 (by omega)
    have e2 : (h1 != h2) = true := by simp; omega
    have e3 : ¬ (h1 < h2) := by omega
    have e4 : decide (h1 < h2) = false := decide_eq_false e3
    go_enter Tryd.func110, Tryd.ntmps110
    go_wp2
    go_ret
    exact ⟨rfl, HB.out⟩
  · have e1 : (h1 == h1) = true := by simp
    have e2 : (h1 != h1) = false := by simp
    have e3 : ¬ (l1 < l2) := by omega
    have e4 : decide (l1 < l2) = false := decide_eq_false e3
    have e5 : (l1 == l2) = false := beq_eq_false_iff_ne.2 (by omega)
    go_enter Tryd.func110, Tryd.ntmps110
    go_wp2
    go_ret
    exact ⟨rfl, HB.out⟩
theorem hilo_cmp (a b c d : Nat) : (hiOf a b < hiOf c d ∧ cmp3 (a * b) (c * d) = -1) ∨ (hiOf a b = hiOf c d ∧ loOf a b < loOf c d ∧ cmp3 (a * b) (c * d) = -1) ∨ (hiOf a b = hiOf c d ∧ loOf a b = loOf c d ∧ cmp3 (a * b) (c * d) = 0) ∨ (hiOf c d < hiOf a b ∧ cmp3 (a * b) (c * d) = 1) ∨ (hiOf a b = hiOf c d ∧ loOf c d < loOf a b ∧ cmp3 (a * b) (c * d) = 1) := by
  unfold hiOf loOf
  generalize a * b = x
  generalize c * d = y
  rcases Nat.lt_trichotomy x y with h | h | h
  · rw [cmp3_lt h]; omega
  · subst h; rw [cmp3_eq]; omega
  · rw [cmp3_gt h]; omega
set_option maxHeartbeats 1000000 in
set_option maxRecDepth 100000 in
theorem cmpMul_any (a b c d : Nat) (ha : a ≤ 9223372036854775807) (hb : b ≤ 9223372036854775807) (hc : c ≤ 9223372036854775807) (hd : d ≤ 9223372036854775807) (w : World) :
    Calls Tryd.prog 71 #[.int .i64 a, .int .i64 b, .int .i64 c, .int .i64 d] w fun e w' => e = .returned (.int .i64 (cmp3 (a * b) (c * d))) ∧ Below w.heap.size w w' := by
  have h1 : Aside0 (∀ W, _) := ⟨fun W => product_any a b ha hb W⟩
  have h2 : Aside0 (∀ W, _) := ⟨fun W => product_any c d hc hd W⟩
  have h3 := hilo_cmp a b c d
  have H3 := hide h3
  clear h3 ha hb hc hd
  generalize cmp3 (a * b) (c * d) = r at *
  generalize hiOf a b = x1 at *
  generalize loOf a b = y1 at *
  generalize hiOf c d = x2 at *
  generalize loOf c d = y2 at *
  have hov : Aside0 (∀ W, Calls Tryd.prog 110 #[.agg #[.bool false, .int .u64 x1, .int .u64 y1], .agg #[.bool false, .int .u64 x2, .int .u64 y2]] W fun e w' => e = .returned (.int .i64 r) ∧ Below W.heap.size W w') := ⟨fun W => nover_any false false x1 y1 x2 y2 r H3.out W⟩
  go_enter Tryd.func71, Tryd.ntmps71
  go_wp2_with fail
  go_at_call 109
  refine (h1.out _).mono ?_
  rintro e w1 ⟨rfl, hb1⟩
  go_wp2_with fail
  go_at_call 109
  refine (h2.out _).mono ?_
  rintro e w2 ⟨rfl, hb2⟩
  have HB : Aside0 _ := ⟨below_then hb1 hb2⟩
  clear hb1 hb2
  go_wp2_with (go_at_call 110; refine (hov.out _).mono ?_; rintro e w3 ⟨rfl, hb3⟩)
  go_ret
  exact ⟨rfl, below_then (below_alloc (below_alloc HB.out _) _) hb3⟩
/-! ### surd -/
def inN (n a b : Int) : Bool := decide (a ≤ n) && decide (n ≤ b)
theorem sin_any (n a b : Int) (w : World) : Calls Tryd.prog 69 #[.int .i64 n, .int .i64 a, .int .i64 b] w fun e w' => e = .returned (.bool (inN n a b)) ∧ w = w' := by
  have HF := hide (show inN n a b = (decide (a ≤ n) && decide (n ≤ b)) from rfl)
  generalize inN n a b = r at *
  by_cases h : a ≤ n
  · have hd := decide_eq_true h
    have HD := hide hd
    clear hd
    go_enter Tryd.func69, Tryd.ntmps69
    go_wp2
    go_ret
    exact ⟨ret_bool (by rw [HF.out, HD.out]; rfl), rfl⟩
  · have hd := decide_eq_false h
    have HD := hide hd
    clear hd
    go_enter Tryd.func69, Tryd.ntmps69
    go_wp2
    go_ret
    exact ⟨ret_bool (by rw [HF.out, HD.out]; rfl), rfl⟩
def rootB (p q : Int) : Bool := inN p 0 1000000 && inN q 1 1000000
theorem root_any (p q : Int) (w : World) : Calls Tryd.prog 70 #[.int .i64 p, .int .i64 q] w fun e w' => e = .returned (.bool (rootB p q)) ∧ w = w' := by
  have h1 : Aside0 (∀ W, _) := ⟨fun W => sin_any p 0 1000000 W⟩
  have h2 : Aside0 (∀ W, _) := ⟨fun W => sin_any q 1 1000000 W⟩
  have HF := hide (show rootB p q = (inN p 0 1000000 && inN q 1 1000000) from rfl)
  generalize rootB p q = r at *
  generalize inN q 1 1000000 = x2 at *
  cases hx : inN p 0 1000000 with
  | true =>
    rw [hx] at h1 HF
    clear hx
    go_enter Tryd.func70, Tryd.ntmps70
    go_wp2_with fail
    go_at_call 69
    refine (h1.out _).mono ?_
    rintro e w1 ⟨rfl, rfl⟩
    go_wp2_with fail
    go_at_call 69
    refine (h2.out _).mono ?_
    rintro e w1 ⟨rfl, rfl⟩
    go_wp2
    go_ret
    exact ⟨ret_bool (by rw [HF.out]; rfl), rfl⟩
  | false =>
    rw [hx] at h1 HF
    clear hx
    go_enter Tryd.func70, Tryd.ntmps70
    go_wp2_with fail
    go_at_call 69
    refine (h1.out _).mono ?_
    rintro e w1 ⟨rfl, rfl⟩
    go_wp2
    go_ret
    exact ⟨ret_bool (by rw [HF.out]; rfl), rfl⟩
/-- surd.Good, of numbers within. -/
theorem sgood_any (a b p q : Int) (w : World) (ha : inN a (-1000000000) 1000000000 = true) (hb : inN b (-1000000000) 1000000000 = true) :
    Calls Tryd.prog 63 #[.agg #[.int .i64 a, .int .i64 b, .int .i64 p, .int .i64 q]] w fun e w' => e = .returned (.bool (rootB p q)) ∧ Below w.heap.size w w' := by
  have h1 : Aside0 (∀ W, _) := ⟨fun W => sin_any a (-1000000000) 1000000000 W⟩
  have h2 : Aside0 (∀ W, _) := ⟨fun W => sin_any b (-1000000000) 1000000000 W⟩
  have h3 : Aside0 (∀ W, _) := ⟨fun W => root_any p q W⟩
  rw [ha] at h1
  rw [hb] at h2
  generalize rootB p q = r at *
  clear ha hb
  go_enter Tryd.func63, Tryd.ntmps63
  go_wp2_with fail
  go_at_call 69
  refine (h1.out _).mono ?_
  rintro e w1 ⟨rfl, rfl⟩
  go_wp2_with fail
  go_at_call 69
  refine (h2.out _).mono ?_
  rintro e w1 ⟨rfl, rfl⟩
  go_wp2_with (go_at_call 70; refine (h3.out _).mono ?_; rintro e w1 ⟨rfl, rfl⟩)
  go_ret
  exact ⟨rfl, below_alloc (Below.refl _ w) _⟩
/-- dover.Good. -/
def ruleB (p q : Int) : Bool := rootB p q && decide (q ≤ p)
theorem rule_any (p q : Int) (w : World) : Calls Tryd.prog 27 #[.agg #[.int .i64 p, .int .i64 q]] w fun e w' => e = .returned (.bool (ruleB p q)) ∧ Below w.heap.size w w' := by
  have h1 : Aside0 (∀ W, _) := ⟨fun W => sgood_any 0 0 p q W (by decide) (by decide)⟩
  have HF := hide (show ruleB p q = (rootB p q && decide (q ≤ p)) from rfl)
  generalize ruleB p q = r at *
  cases hx : rootB p q with
  | true =>
    rw [hx] at h1 HF
    clear hx
    go_enter Tryd.func27, Tryd.ntmps27
    go_wp2_with (go_at_call 63; refine (h1.out _).mono ?_; rintro e w1 ⟨rfl, hb1⟩; obtain ⟨c1, f1⟩ := bcell hb1)
    go_ret
    exact ⟨ret_bool (by rw [HF.out]; rfl), below_from (Below.refl _ w) hb1⟩
  | false =>
    rw [hx] at h1 HF
    clear hx
    go_enter Tryd.func27, Tryd.ntmps27
    go_wp2_with (go_at_call 63; refine (h1.out _).mono ?_; rintro e w1 ⟨rfl, hb1⟩; obtain ⟨c1, f1⟩ := bcell hb1)
    go_ret
    exact ⟨ret_bool (by rw [HF.out]; rfl), below_from (Below.refl _ w) hb1⟩
end Go.Proofs.YtjgegnjclmkpeaaDoor
set_option linter.unusedVariables false
set_option linter.unusedSimpArgs false
namespace Go.Proofs.YtjgegnjclmkpeaaDoor
open Go.RowKit
/-- surd.side. -/
theorem sside_any (n : Int) (w : World) : Calls Tryd.prog 188 #[.int .i64 n] w fun e w' => e = .returned (.int .i64 (if n < 0 then -1 else if 0 < n then 1 else 0)) ∧ w = w' := by
  rcases Int.lt_trichotomy n 0 with h | h | h
  · rw [if_pos h]
    go_enter Tryd.func188, Tryd.ntmps188
    go_wp2
    go_ret
    exact ⟨rfl, rfl⟩
  · subst h
    go_enter Tryd.func188, Tryd.ntmps188
    go_wp2
    go_ret
    exact ⟨rfl, rfl⟩
  · have h' : ¬ n < 0 := by omega
    rw [if_neg h', if_pos h]
    go_enter Tryd.func188, Tryd.ntmps188
    go_wp2
    go_ret
    exact ⟨rfl, rfl⟩
def SignIs (r : Int) (w : World) (e : Ending) (w' : World) : Prop := e = .returned (.int .i64 r) ∧ Below w.heap.size w w'
/-- surd.Sign where B is not above 0. -/
theorem sign_lit (a b p q : Int) (sa sb r : Int) (w : World) (ha : inN a (-1000000000) 1000000000 = true) (hb : inN b (-1000000000) 1000000000 = true) (hr : rootB p q = true) (hp : 1 ≤ p)
    (hsa : (if a < 0 then (-1 : Int) else if 0 < a then 1 else 0) = sa) (hsb : (if b < 0 then (-1 : Int) else if 0 < b then 1 else 0) = sb)
    (hc : (sa = -1 ∧ sb = -1 ∧ r = -1) ∨ (sa = 0 ∧ sb = -1 ∧ r = -1) ∨ (sa = -1 ∧ sb = 0 ∧ r = -1) ∨ (sa = 0 ∧ sb = 0 ∧ r = 0) ∨ (sa = 1 ∧ sb = 0 ∧ r = 1)) :
    Calls Tryd.prog 160 #[.agg #[.int .i64 a, .int .i64 b, .int .i64 p, .int .i64 q]] w (SignIs r w) := by
  have mixed : Tryd.prog.follows .mixedOrders = true := by kernel_rfl
  have hg : Aside0 (∀ W, _) := ⟨fun W => sgood_any a b p q W ha hb⟩
  rw [hr] at hg
  obtain ⟨W1, hW1⟩ : ∃ W1, W1 = w.alloc (.cells #[.int .i64 a, .int .i64 b, .int .i64 p, .int .i64 q] 104 (0, 0)) := ⟨_, rfl⟩
  have hb1 : Below w.heap.size w W1 := by rw [hW1]; exact below_alloc (Below.refl _ w) _
  have e0 : W1.cell? ⟨w.heap.size, 0, none⟩ = some (.int .i64 a) := by rw [hW1]; simp
  have e1 : W1.cell? ⟨w.heap.size, 1, none⟩ = some (.int .i64 b) := by rw [hW1]; simp
  have e2 : W1.cell? ⟨w.heap.size, 2, none⟩ = some (.int .i64 p) := by rw [hW1]; simp
  have e3 : W1.cell? ⟨w.heap.size, 3, none⟩ = some (.int .i64 q) := by rw [hW1]; simp
  have hk : w.heap.size < W1.heap.size := by rw [hW1]; simp
  have hs1 : Aside0 (∀ W, _) := ⟨fun W => sside_any a W⟩
  have hs2 : Aside0 (∀ W, _) := ⟨fun W => sside_any b W⟩
  have hs3 : Aside0 (∀ (n : Int) (W : World), _) := ⟨fun n W => sside_any n W⟩
  rw [hsa] at hs1
  rw [hsb] at hs2
  have hp0 : (p == 0) = false := beq_eq_false_iff_ne.2 (by omega)
  have HB1 : Aside0 _ := ⟨hb1⟩
  have HW1 := hide hW1
  have HC := hide hc
  clear ha hb hr hsa hsb hp hb1 hW1 hc
  rcases HC.out with ⟨rfl, rfl, rfl⟩ | ⟨rfl, rfl, rfl⟩ | ⟨rfl, rfl, rfl⟩ | ⟨rfl, rfl, rfl⟩ | ⟨rfl, rfl, rfl⟩
  all_goals
    clear HC
    go_enter Tryd.func160, Tryd.ntmps160
    go_wp2_with fail
    rw [← HW1.out]
    go_at_call 63
    refine (hg.out _).mono ?_
    rintro e w2 ⟨rfl, hb2⟩
    have x0 := (hb2.cell (p := ⟨w.heap.size, 0, none⟩) hk).trans e0
    have x1 := (hb2.cell (p := ⟨w.heap.size, 1, none⟩) hk).trans e1
    have x2 := (hb2.cell (p := ⟨w.heap.size, 2, none⟩) hk).trans e2
    have x3 := (hb2.cell (p := ⟨w.heap.size, 3, none⟩) hk).trans e3
    have hk2 := Nat.lt_of_lt_of_le hk hb2.size
    have HB2 : Aside0 _ := ⟨below_then HB1.out hb2⟩
    clear hb2 e0 e1 e2 e3
    go_wp2_with fail
    have hcs := bw_cells w2
    have HA1 : Aside0 _ := ⟨fun p' : BW w2 => calls_bw_same p' (hs1.out p'.W)⟩
    have HA2 : Aside0 _ := ⟨fun p' : BW w2 => calls_bw_same p' (hs2.out p'.W)⟩
    refine wp_region_bw mixed (by kernel_rfl) ?_
    go_big_quiet_step (fail)
    go_big_quiet_step (fail)
    go_big_quiet_step ((go_at_call 188; exact HA1.out _))
    go_big_quiet_step (fail)
    go_big_quiet_step (fail)
    go_big_quiet_step ((go_at_call 188; exact HA2.out _))
    go_big_quiet_step (fail)
    go_big_quiet_step (fail)
    refine wpQuiet_nil ?_
    rintro w' ⟨p', rfl⟩
    have HB3 : Aside0 _ := ⟨below_then HB2.out p'.h⟩
    have y2 := (p'.h.cell (p := ⟨w.heap.size, 2, none⟩) hk2).trans x2
    clear hcs x0 x1 x2 x3
    generalize p'.W = w3 at *
    go_wp2_with (go_at_call 188; refine (hs3.out _ _).mono ?_; rintro e w4 ⟨rfl, rfl⟩)
    go_ret
    exact ⟨rfl, HB3.out⟩
theorem mul_bd {a b A B : Int} (h0 : 0 ≤ a) (h1 : a ≤ A) (h2 : 0 ≤ b) (h3 : b ≤ B) : 0 ≤ a * b ∧ a * b ≤ A * B := ⟨Int.mul_nonneg h0 h2, Int.mul_le_mul h1 h3 h2 (by omega)⟩
/-- surd.Sign where A is above 0 and B below. -/
theorem sign_cmp (x y p q : Nat) (w : World) (hx : 0 < x) (hx1 : x ≤ 1000000000) (hy : 0 < y) (hy1 : y ≤ 1000000000) (hp : 1 ≤ p) (hp1 : p ≤ 1000000) (hq : 1 ≤ q) (hq1 : q ≤ 1000000) :
    Calls Tryd.prog 160 #[.agg #[.int .i64 x, .int .i64 (-(y : Int)), .int .i64 p, .int .i64 q]] w (SignIs (cmp3 (x * x * q) (y * y * p)) w) := by
  have mixed : Tryd.prog.follows .mixedOrders = true := by kernel_rfl
  have hg : Aside0 (∀ W, _) := ⟨fun W => sgood_any x (-(y : Int)) p q W (by simp [inN]; omega) (by simp [inN]; omega)⟩
  rw [show rootB (p : Int) (q : Int) = true by simp [rootB, inN]; omega] at hg
  have hxx := mul_bd (show (0 : Int) ≤ x by omega) (show (x : Int) ≤ 1000000000 by omega) (show (0 : Int) ≤ x by omega) (show (x : Int) ≤ 1000000000 by omega)
  have hyy := mul_bd (show (0 : Int) ≤ y by omega) (show (y : Int) ≤ 1000000000 by omega) (show (0 : Int) ≤ y by omega) (show (y : Int) ≤ 1000000000 by omega)
  have hxn : ((x * x : Nat) : Int) = (x : Int) * x := Int.natCast_mul x x
  have hyn : ((y * y : Nat) : Int) = (y : Int) * y := Int.natCast_mul y y
  have hcm : Aside0 (∀ W, _) := ⟨fun W => cmpMul_any (x * x) q (y * y) p (by omega) (by omega) (by omega) (by omega) W⟩
  have hw1 : IntKind.i64.wrap ((x : Int) * x) = ((x * x : Nat) : Int) := by rw [IntKind.wrap_i64]; omega
  have hw2 : IntKind.i64.wrap (-(y : Int) * -(y : Int)) = ((y * y : Nat) : Int) := by rw [Int.neg_mul_neg, IntKind.wrap_i64]; omega
  have hw3 : IntKind.i64.wrap ((y : Int) * (y : Int)) = ((y * y : Nat) : Int) := by rw [IntKind.wrap_i64]; omega
  have hr : cmp3 (x * x * q) (y * y * p) = -1 ∨ cmp3 (x * x * q) (y * y * p) = 0 ∨ cmp3 (x * x * q) (y * y * p) = 1 := by
    unfold cmp3; split
    · exact .inl rfl
    · split
      · exact .inr (.inl rfl)
      · exact .inr (.inr rfl)
  have HRR := hide hr
  have hsa : (if (x : Int) < 0 then (-1 : Int) else if 0 < (x : Int) then 1 else 0) = 1 := by rw [if_neg (by omega), if_pos (by omega)]
  have hsb : (if -(y : Int) < 0 then (-1 : Int) else if 0 < -(y : Int) then 1 else 0) = -1 := by rw [if_pos (by omega)]
  obtain ⟨W1, hW1⟩ : ∃ W1, W1 = w.alloc (.cells #[.int .i64 x, .int .i64 (-(y : Int)), .int .i64 p, .int .i64 q] 104 (0, 0)) := ⟨_, rfl⟩
  have hb1 : Below w.heap.size w W1 := by rw [hW1]; exact below_alloc (Below.refl _ w) _
  have e0 : W1.cell? ⟨w.heap.size, 0, none⟩ = some (.int .i64 x) := by rw [hW1]; simp
  have e1 : W1.cell? ⟨w.heap.size, 1, none⟩ = some (.int .i64 (-(y : Int))) := by rw [hW1]; simp
  have e2 : W1.cell? ⟨w.heap.size, 2, none⟩ = some (.int .i64 p) := by rw [hW1]; simp
  have e3 : W1.cell? ⟨w.heap.size, 3, none⟩ = some (.int .i64 q) := by rw [hW1]; simp
  have hk : w.heap.size < W1.heap.size := by rw [hW1]; simp
  have hs1 : Aside0 (∀ W, _) := ⟨fun W => sside_any (x : Int) W⟩
  have hs2 : Aside0 (∀ W, _) := ⟨fun W => sside_any (-(y : Int)) W⟩
  rw [hsa] at hs1
  rw [hsb] at hs2
  have hp0 : ((p : Int) == 0) = false := beq_eq_false_iff_ne.2 (by omega)
  have HB1 : Aside0 _ := ⟨hb1⟩
  have HW1 := hide hW1
  have HW2 := hide hw1
  have HW3 := hide hw2
  have HW4 := hide hw3
  generalize cmp3 (x * x * q) (y * y * p) = r at *
  clear hsa hsb hb1 hW1 hxx hyy hxn hyn hr hx hx1 hy hy1 hp hp1 hq hq1 hw1 hw2 hw3
  go_enter Tryd.func160, Tryd.ntmps160
  go_wp2_with fail
  rw [← HW1.out]
  go_at_call 63
  refine (hg.out _).mono ?_
  rintro e w2 ⟨rfl, hb2⟩
  have x0 := (hb2.cell (p := ⟨w.heap.size, 0, none⟩) hk).trans e0
  have x1 := (hb2.cell (p := ⟨w.heap.size, 1, none⟩) hk).trans e1
  have x2 := (hb2.cell (p := ⟨w.heap.size, 2, none⟩) hk).trans e2
  have x3 := (hb2.cell (p := ⟨w.heap.size, 3, none⟩) hk).trans e3
  have hk2 := Nat.lt_of_lt_of_le hk hb2.size
  have HB2 : Aside0 _ := ⟨below_then HB1.out hb2⟩
  clear hb2 e0 e1 e2 e3
  go_wp2_with fail
  have hcs := bw_cells w2
  have HA1 : Aside0 _ := ⟨fun p' : BW w2 => calls_bw_same p' (hs1.out p'.W)⟩
  have HA2 : Aside0 _ := ⟨fun p' : BW w2 => calls_bw_same p' (hs2.out p'.W)⟩
  refine wp_region_bw mixed (by kernel_rfl) ?_
  go_big_quiet_step (fail)
  go_big_quiet_step (fail)
  go_big_quiet_step ((go_at_call 188; exact HA1.out _))
  go_big_quiet_step (fail)
  go_big_quiet_step (fail)
  go_big_quiet_step ((go_at_call 188; exact HA2.out _))
  go_big_quiet_step (fail)
  go_big_quiet_step (fail)
  refine wpQuiet_nil ?_
  rintro w' ⟨p', rfl⟩
  have HB3 : Aside0 _ := ⟨below_then HB2.out p'.h⟩
  have y0 := (p'.h.cell (p := ⟨w.heap.size, 0, none⟩) hk2).trans x0
  have y1 := (p'.h.cell (p := ⟨w.heap.size, 1, none⟩) hk2).trans x1
  have y2 := (p'.h.cell (p := ⟨w.heap.size, 2, none⟩) hk2).trans x2
  have y3 := (p'.h.cell (p := ⟨w.heap.size, 3, none⟩) hk2).trans x3
  clear hcs x0 x1 x2 x3
  generalize p'.W = w3 at *
  have hw1 := HW2.out
  have hw2 := HW3.out
  have hw3 := HW4.out
  rcases HRR.out with rfl | rfl | rfl
  all_goals
    go_wp2_with (go_at_call 71; refine (hcm.out _).mono ?_; rintro e w4 ⟨rfl, hb4⟩)
    go_ret
    exact ⟨rfl, below_then HB3.out hb4⟩
theorem cmp3_pos (a b : Nat) : decide (0 < cmp3 a b) = decide (b < a) := by
  rcases Nat.lt_trichotomy a b with h | h | h
  · rw [cmp3_lt h, decide_eq_false (show ¬ b < a by omega)]; rfl
  · subst h; rw [cmp3_eq, decide_eq_false (Nat.lt_irrefl a)]; rfl
  · rw [cmp3_gt h, decide_eq_true h]; rfl
theorem sign_above (v w p q : Int) (hv0 : 0 ≤ v) (hv1 : v ≤ 1000000000) (hw0 : 0 ≤ w) (hw1 : w ≤ 1000000000) (hp0 : 1 ≤ p) (hp1 : p ≤ 1000000) (hq0 : 1 ≤ q) (hq1 : q ≤ 1000000) :
    ∃ r, (∀ W, Calls Tryd.prog 160 #[.agg #[.int .i64 (v - w), .int .i64 (-w), .int .i64 p, .int .i64 q]] W (SignIs r W)) ∧ decide (0 < r) = Dov.above v w p q := by
  have hA : inN (v - w) (-1000000000) 1000000000 = true := by simp [inN]; omega
  have hB : inN (-w) (-1000000000) 1000000000 = true := by simp [inN]; omega
  have hR : rootB p q = true := by simp [rootB, inN]; omega
  by_cases hw : w = 0
  · by_cases hv : v = 0
    · refine ⟨0, fun W => sign_lit _ _ p q 0 0 0 W hA hB hR hp0 (by rw [if_neg (by omega), if_neg (by omega)]) (by rw [if_neg (by omega), if_neg (by omega)]) (by omega), ?_⟩
      unfold Dov.above; rw [decide_eq_false (by omega), decide_eq_false (by omega)]
    · refine ⟨1, fun W => sign_lit _ _ p q 1 0 1 W hA hB hR hp0 (by rw [if_neg (by omega), if_pos (by omega)]) (by rw [if_neg (by omega), if_neg (by omega)]) (by omega), ?_⟩
      unfold Dov.above; rw [decide_eq_true (by omega), decide_eq_true (by omega)]
  · rcases Int.lt_trichotomy v w with h | h | h
    · refine ⟨-1, fun W => sign_lit _ _ p q (-1) (-1) (-1) W hA hB hR hp0 (by rw [if_pos (by omega)]) (by rw [if_pos (by omega)]) (by omega), ?_⟩
      unfold Dov.above; rw [decide_eq_false (by omega), decide_eq_false (by omega)]
    · refine ⟨-1, fun W => sign_lit _ _ p q 0 (-1) (-1) W hA hB hR hp0 (by rw [if_neg (by omega), if_neg (by omega)]) (by rw [if_pos (by omega)]) (by omega), ?_⟩
      unfold Dov.above; rw [decide_eq_false (by omega), decide_eq_false (by omega)]
    · obtain ⟨x, hx⟩ := Int.eq_ofNat_of_zero_le (show 0 ≤ v - w by omega)
      obtain ⟨y, rfl⟩ := Int.eq_ofNat_of_zero_le hw0
      obtain ⟨P, rfl⟩ := Int.eq_ofNat_of_zero_le (show 0 ≤ p by omega)
      obtain ⟨Q, rfl⟩ := Int.eq_ofNat_of_zero_le (show 0 ≤ q by omega)
      rw [hx]
      refine ⟨cmp3 (x * x * Q) (y * y * P), fun W => sign_cmp x y P Q W (by omega) (by omega) (by omega) (by omega) (by omega) (by omega) (by omega) (by omega), ?_⟩
      rw [cmp3_pos]
      unfold Dov.above
      rw [hx]
      have e1 : ((x : Int) * x * Q) = ((x * x * Q : Nat) : Int) := by rw [Int.natCast_mul, Int.natCast_mul]
      have e2 : ((y : Int) * y * P) = ((y * y * P : Nat) : Int) := by rw [Int.natCast_mul, Int.natCast_mul]
      rw [e1, e2, Bool.eq_iff_iff, decide_eq_true_eq, decide_eq_true_eq]
      omega
set_option maxHeartbeats 1000000 in
theorem above_any (v w p q : Int) (W : World) (hv0 : 0 ≤ v) (hv1 : v ≤ 1000000000) (hw0 : 0 ≤ w) (hw1 : w ≤ 1000000000) (hp0 : 1 ≤ p) (hp1 : p ≤ 1000000) (hq0 : 1 ≤ q) (hq1 : q ≤ 1000000) :
    Calls Tryd.prog 135 #[.int .i64 v, .int .i64 w, .int .i64 p, .int .i64 q] W fun e w' => e = .returned (.bool (Dov.above v w p q)) ∧ Below W.heap.size W w' := by
  obtain ⟨r, hs, hr⟩ := sign_above v w p q hv0 hv1 hw0 hw1 hp0 hp1 hq0 hq1
  have HS : Aside0 _ := ⟨hs⟩
  have HRR := hide hr
  have h1 : Aside0 (∀ W, _) := ⟨fun W => sin_any v 0 1000000000 W⟩
  have h2 : Aside0 (∀ W, _) := ⟨fun W => sin_any w 0 1000000000 W⟩
  have h3 : Aside0 (∀ W, _) := ⟨fun W => root_any p q W⟩
  rw [show inN v 0 1000000000 = true by simp [inN]; omega] at h1
  rw [show inN w 0 1000000000 = true by simp [inN]; omega] at h2
  rw [show rootB p q = true by simp [rootB, inN]; omega] at h3
  clear hs hr hp0 hp1 hq0 hq1
  generalize Dov.above v w p q = ab at *
  go_enter Tryd.func135, Tryd.ntmps135
  go_wp2_with fail
  go_at_call 69
  refine (h1.out _).mono ?_
  rintro e w1 ⟨rfl, rfl⟩
  go_wp2_with fail
  go_at_call 69
  refine (h2.out _).mono ?_
  rintro e w1 ⟨rfl, rfl⟩
  go_wp2_with (first | (go_at_call 70; refine (h3.out _).mono ?_; rintro e w1 ⟨rfl, rfl⟩) | (go_at_call 160; refine (HS.out _).mono ?_; rintro e w2 ⟨rfl, hb2⟩))
  go_ret
  exact ⟨ret_bool HRR.out, hb2⟩
set_option maxHeartbeats 1000000 in
theorem bound_any (v w p q : Int) (W : World) (hv0 : 0 ≤ v) (hv1 : v ≤ 100000000) (hw0 : 0 ≤ w) (hw1 : w ≤ 100000000) (hp0 : 1 ≤ p) (hp1 : p ≤ 1000000) (hq0 : 1 ≤ q) (hq1 : q ≤ 1000000) (hB : Dov.boundB v w p q = true) :
    Calls Tryd.prog 30 #[.int .i64 v, .int .i64 w, .int .i64 p, .int .i64 q] W fun e w' => e = .returned (.bool true) ∧ Below W.heap.size W w' := by
  have h1 : Aside0 (∀ W, _) := ⟨fun W => sin_any v 0 1000000000 W⟩
  have h2 : Aside0 (∀ W, _) := ⟨fun W => sin_any w 0 1000000000 W⟩
  have h3 : Aside0 (∀ W, _) := ⟨fun W => root_any p q W⟩
  rw [show inN v 0 1000000000 = true by simp [inN]; omega] at h1
  rw [show inN w 0 1000000000 = true by simp [inN]; omega] at h2
  rw [show rootB p q = true by simp [rootB, inN]; omega] at h3
  have b1 := mul_bd hv0 hv1 (show 0 ≤ q by omega) hq1
  have b2 := mul_bd hw0 hw1 (show 0 ≤ q by omega) hq1
  have b3 := mul_bd hw0 hw1 (show 0 ≤ p by omega) hp1
  have b4 := mul_bd hw0 hw1 hw0 hw1
  have b5 := mul_bd (show 0 ≤ p by omega) hp1 (show 0 ≤ q by omega) hq1
  have w1 : IntKind.i64.wrap (v * q) = v * q := by rw [IntKind.wrap_i64]; omega
  have w2 : IntKind.i64.wrap (w * q) = w * q := by rw [IntKind.wrap_i64]; omega
  have w3 : IntKind.i64.wrap (w * p) = w * p := by rw [IntKind.wrap_i64]; omega
  have w4 : IntKind.i64.wrap (4 * w) = 4 * w := by rw [IntKind.wrap_i64]; omega
  have w5 : IntKind.i64.wrap (4 * w * w) = 4 * w * w := by rw [Int.mul_assoc, IntKind.wrap_i64]; omega
  have w6 : IntKind.i64.wrap (p * q) = p * q := by rw [IntKind.wrap_i64]; omega
  have w7 : IntKind.i64.wrap (v * q - w * q) = v * q - w * q := by rw [IntKind.wrap_i64]; omega
  have w8 : IntKind.i64.wrap (v * q - w * q - w * p) = v * q - w * q - w * p := by rw [IntKind.wrap_i64]; omega
  have hbd : -1000000000000000 ≤ v * q - w * q - w * p ∧ v * q - w * q - w * p ≤ 1000000000000000 := by omega
  unfold Dov.boundB at hB
  rw [decide_eq_true_eq] at hB
  have hcmp : ¬ v * q - w * q - w * p ≤ 0 → ∃ r : Int, r ≤ 0 ∧ ∀ W, Calls Tryd.prog 71 #[.int .i64 (v * q - w * q - w * p), .int .i64 (v * q - w * q - w * p), .int .i64 (4 * w * w), .int .i64 (p * q)] W fun e w' => e = .returned (.int .i64 r) ∧ Below W.heap.size W w' := fun hpos => by
    have hB2 := hB.resolve_left hpos
    obtain ⟨x, hx⟩ := Int.eq_ofNat_of_zero_le (show 0 ≤ v * q - w * q - w * p by omega)
    have h4 : 0 ≤ 4 * w * w ∧ 4 * w * w ≤ 4 * (100000000 * 100000000) := by rw [Int.mul_assoc]; omega
    obtain ⟨y, hy⟩ := Int.eq_ofNat_of_zero_le h4.1
    obtain ⟨z, hz⟩ := Int.eq_ofNat_of_zero_le b5.1
    have hxb : (x : Int) ≤ 1000000000000000 := by omega
    have hyb : (y : Int) ≤ 40000000000000000 := by omega
    have hzb : (z : Int) ≤ 1000000000000 := by omega
    rw [hx, hy, hz] at hB2
    rw [hx, hy, hz]
    clear w1 w2 w3 w4 w5 w6 w7 w8
    refine ⟨cmp3 (x * x) (y * z), ?_, fun W => cmpMul_any x x y z (by omega) (by omega) (by omega) (by omega) W⟩
    have hle : x * x ≤ y * z := by
      have e1 : ((x : Int) * x) = ((x * x : Nat) : Int) := (Int.natCast_mul x x).symm
      have e2 : ((y : Int) * z) = ((y * z : Nat) : Int) := (Int.natCast_mul y z).symm
      rw [e1, e2] at hB2
      omega
    rcases Nat.lt_or_eq_of_le hle with h | h
    · rw [cmp3_lt h]; omega
    · rw [h, cmp3_eq]; omega
  have W1 := hide w1
  have W2 := hide w2
  have W3 := hide w3
  have W7 := hide w7
  have W8 := hide w8
  by_cases hpos : v * q - w * q - w * p ≤ 0
  · have hd := decide_eq_true hpos
    clear hp0 hp1 hq0 hq1 hcmp hB b1 b2 b3 b4 b5 hbd w4 w5 w6
    go_enter Tryd.func30, Tryd.ntmps30
    go_wp2_with fail
    go_at_call 69
    refine (h1.out _).mono ?_
    rintro e z1 ⟨rfl, rfl⟩
    go_wp2_with fail
    go_at_call 69
    refine (h2.out _).mono ?_
    rintro e z1 ⟨rfl, rfl⟩
    go_wp2_with (go_at_call 70; refine (h3.out _).mono ?_; rintro e z1 ⟨rfl, rfl⟩)
    go_ret
    exact ⟨rfl, Below.refl _ _⟩
  · obtain ⟨r, hr, hcc⟩ := hcmp hpos
    have hd := decide_eq_false hpos
    have HCC : Aside0 _ := ⟨hcc⟩
    clear hp0 hp1 hq0 hq1 hcmp hB b1 b2 b3 b4 b5 hbd hcc
    go_enter Tryd.func30, Tryd.ntmps30
    go_wp2_with fail
    go_at_call 69
    refine (h1.out _).mono ?_
    rintro e z1 ⟨rfl, rfl⟩
    go_wp2_with fail
    go_at_call 69
    refine (h2.out _).mono ?_
    rintro e z1 ⟨rfl, rfl⟩
    go_wp2_with (first | (go_at_call 70; refine (h3.out _).mono ?_; rintro e z1 ⟨rfl, rfl⟩) | (go_at_call 71; refine (HCC.out _).mono ?_; rintro e z2 ⟨rfl, hb2⟩))
    go_ret
    exact ⟨rfl, hb2⟩
end Go.Proofs.YtjgegnjclmkpeaaDoor
