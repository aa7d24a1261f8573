/- Package name's Good: what it computes, and the walk. -/
import Derived.Test.YtjgegnjclmkpeaaDoorLeaf
import Derived.Lib.OthersKept
set_option linter.unusedVariables false
set_option linter.unusedSimpArgs false
namespace Go.Proofs.YtjgegnjclmkpeaaDoor
open Go.RowKit

def isDigitR (r : Int) : Bool := decide (48 ≤ r) && decide (r ≤ 57)
/-- What a rune of a name may be, n runes ahead of it. -/
def runeOk (n : Nat) (r : Int) : Bool := Lib.isLetterU r || (decide (n ≠ 0) && (isDigitR r || decide (r = 95)))
structure Aside0 (p : Prop) : Prop where mk :: (out : p)
/-- The loop of Good, from a place on, n runes behind it: none: a rune that may not be. -/
def gnLoop (s : ByteArray) : Nat → Nat → Nat → Option Nat
  | 0, _, n => some n
  | f + 1, pos, n =>
    if pos < s.size then
      if runeOk n ((Utf8.decode s pos).1 : Nat) then gnLoop s f (pos + (Utf8.decode s pos).2) (n + 1) else none
    else some n
def goodName (s : ByteArray) : Bool :=
  match gnLoop s (s.size + 1) 0 0 with
  | none => false
  | some n => decide (1 ≤ n) && decide (n ≤ 20) && Lib.validD s.data.toList
theorem decode_pos (s : ByteArray) (pos : Nat) (h : pos < s.size) : 1 ≤ (Utf8.decode s pos).2 := by
  by_cases ha : (s[pos]'h).toNat < 128
  · rw [decode_ascii s pos h ha]; exact Nat.le_refl 1
  · exact (decode_high s pos h (by omega)).2
theorem decode_width (s : ByteArray) (pos : Nat) (h : pos < s.size) : pos + (Utf8.decode s pos).2 ≤ s.size + 3 := by
  have : (Utf8.decode s pos).2 ≤ 4 := by
    simp only [Utf8.decode]
    repeat' split
    all_goals simp
  omega
theorem gnLoop_end {s : ByteArray} {f pos n : Nat} (h : ¬ pos < s.size) : gnLoop s f pos n = some n := by
  cases f with
  | zero => rfl
  | succ f => simp [gnLoop, h]
/-- More rounds than are wanted tell the same. -/
theorem gnLoop_more (s : ByteArray) (f g pos n : Nat) (h : s.size - pos < f) (hg : s.size - pos < g) : gnLoop s f pos n = gnLoop s g pos n := by
  induction f generalizing g pos n with
  | zero => omega
  | succ f ih =>
    cases g with
    | zero => omega
    | succ g =>
      unfold gnLoop
      by_cases hp : pos < s.size
      · rw [if_pos hp, if_pos hp]
        have := decode_pos s pos hp
        split
        · exact ih _ _ _ (by omega) (by omega)
        · rfl
      · rw [if_neg hp, if_neg hp]
theorem gnLoop_step {s : ByteArray} {pos n : Nat} (h : pos < s.size) (hr : runeOk n ((Utf8.decode s pos).1 : Nat) = true) : gnLoop s (s.size + 1) pos n = gnLoop s (s.size + 1) (pos + (Utf8.decode s pos).2) (n + 1) := by
  have := decode_pos s pos h
  rw [gnLoop_more s (s.size + 1) (s.size + 1 + 1) pos n (by omega) (by omega)]
  conv => lhs; unfold gnLoop
  rw [if_pos h, if_pos hr]
theorem gnLoop_bad {s : ByteArray} {pos n : Nat} (h : pos < s.size) (hr : runeOk n ((Utf8.decode s pos).1 : Nat) = false) : gnLoop s (s.size + 1) pos n = none := by
  unfold gnLoop
  rw [if_pos h, if_neg (by rw [hr]; exact Bool.false_ne_true)]

theorem digit_any (r : Int) (w : World) : Calls Tryd.prog 141 #[.int .i32 r] w fun e w' => e = .returned (.bool (isDigitR r)) ∧ w = w' := by
  by_cases h1 : 48 ≤ r
  · by_cases h2 : r ≤ 57
    all_goals
      go_enter Tryd.func141, Tryd.ntmps141
      go_wp2
      go_ret
      exact ⟨by simp [isDigitR, h1, h2], rfl⟩
  · go_enter Tryd.func141, Tryd.ntmps141
    go_wp2
    go_ret
    exact ⟨by simp [isDigitR]; omega, rfl⟩

set_option maxHeartbeats 1000000 in
theorem goodName_any (s : ByteArray) (w : World) (hs : s.size ≤ 140737488351232) (hT : Tabs w) :
    Calls Tryd.prog 118 #[.string s] w fun e w' => e = .returned (.bool (goodName s)) ∧ Below w.heap.size w w' := by
  go_enter Tryd.func118, Tryd.ntmps118
  go_wp2
  go_loopg [3, 5] (s.size + 1) (fun g u3 _ wr => ∃ n pos : Nat, u3 = .int .i64 n ∧ n ≤ pos ∧ pos ≤ s.size + 3 ∧ s.size + 1 - pos ≤ g ∧ wr.heap[w.heap.size]? = some (.stringIter s pos) ∧ Below w.heap.size w wr ∧ Hid (gnLoop s (s.size + 1) 0 0 = gnLoop s (s.size + 1) pos n))
  case atStart => exact ⟨0, 0, rfl, by omega, by omega, by omega, World.iter_heap w s 0, (Below.refl _ _).alloc (Nat.le_refl _) _, rfl⟩
  case round =>
    obtain ⟨n, pos, rfl, hn, hp, hg, hit, hb, HG⟩ := hrel
    by_cases hlt : pos < s.size
    · have hnx := fun ty => Lib.run_next_any_at (P := Tryd.prog) wr w.heap.size s pos ty hit hlt
      have hpos := decode_pos s pos hlt
      have hle := decode_le s pos
      have hb2 := Lib.below_iterAt hb (Nat.le_refl _) s (pos + (Utf8.decode s pos).2)
      have hit2 := Lib.iterAt_heap wr w.heap.size s pos (pos + (Utf8.decode s pos).2) hit
      generalize hr : (Utf8.decode s pos).1 = r at hnx hle
      generalize hk : (Utf8.decode s pos).2 = k at hnx hpos hb2 hit2
      generalize wr.iterAt w.heap.size s (pos + k) = w2 at hnx hb2 hit2
      have HR := hide hr
      have HK := hide hk
      clear hr hk hit hb
      have hT2 := hT.below hb2
      have step : ∀ w3, Below w2.heap.size w2 w3 → runeOk n (r : Nat) = true → (∃ n' pos' : Nat, Value.int .i64 ((n : Int) + 1) = .int .i64 n' ∧ n' ≤ pos' ∧ pos' ≤ s.size + 3 ∧ s.size + 1 - pos' ≤ gk - 1 ∧ w3.heap[w.heap.size]? = some (.stringIter s pos') ∧ Below w.heap.size w w3 ∧ Hid (gnLoop s (s.size + 1) 0 0 = gnLoop s (s.size + 1) pos' n')) := fun w3 hb3 ho => by
        have hlk : w.heap.size < w2.heap.size := (Array.getElem?_eq_some_iff.1 hit2).1
        have hk3 := decode_width s pos hlt
        refine ⟨n + 1, pos + k, by go_num, by omega, ?_, by omega, ?_, below_then hb2 hb3, ?_⟩
        · rw [HK.out] at hk3; omega
        · rw [hb3.block _ hlk]; exact hit2
        · show _ = _
          rw [HG.out, gnLoop_step hlt (by rw [HR.out]; exact ho), HK.out]
      have stop : runeOk n (r : Nat) = false → goodName s = false := fun ho => by
        unfold goodName
        rw [HG.out, gnLoop_bad hlt (by rw [HR.out]; exact ho)]
      have STEP : Aside0 _ := ⟨step⟩
      have STOP : Aside0 _ := ⟨stop⟩
      clear step stop HG
      cases hL : Lib.isLetterU ((r : Nat) : Int) with
      | true =>
        go_wp2_with (go_at_call 140; refine (isLetter_any _ _ (by omega) (by omega) hT2).mono ?_; rintro e w3 ⟨rfl, hb3⟩)
        go_roundg (gk - 1)
        case rel => exact STEP.out _ hb3 (by simp [runeOk, hL])
        case measure => omega
      | false =>
        by_cases h0 : n = 0
        · have h0' : ((n : Int) == 0) = true := by rw [h0]; rfl
          have hf := STOP.out (by simp [runeOk, hL, h0])
          have HF := hide hf
          clear h0 hf
          go_wp2_with (go_at_call 140; refine (isLetter_any _ _ (by omega) (by omega) hT2).mono ?_; rintro e w3 ⟨rfl, hb3⟩)
          go_ret
          exact ⟨by rw [HF.out]; rfl, below_then hb2 hb3⟩
        · have h0' : ((n : Int) == 0) = false := beq_eq_false_iff_ne.2 (by omega)
          cases hD : isDigitR ((r : Nat) : Int) with
          | true =>
            go_wp2_with (first | (go_at_call 140; refine (isLetter_any _ _ (by omega) (by omega) hT2).mono ?_; rintro e w3 ⟨rfl, hb3⟩) | (go_at_call 141; refine (digit_any _ _).mono ?_; rintro e w4 ⟨rfl, rfl⟩))
            go_roundg (gk - 1)
            case rel => exact STEP.out _ hb3 (by simp [runeOk, hL, hD, h0])
            case measure => omega
          | false =>
            by_cases h95 : r = 95
            · have h95' : (((r : Nat) : Int) != 95) = false := by rw [h95]; rfl
              go_wp2_with (first | (go_at_call 140; refine (isLetter_any _ _ (by omega) (by omega) hT2).mono ?_; rintro e w3 ⟨rfl, hb3⟩) | (go_at_call 141; refine (digit_any _ _).mono ?_; rintro e w4 ⟨rfl, rfl⟩))
              go_roundg (gk - 1)
              case rel => exact STEP.out _ hb3 (by simp [runeOk, hL, hD, h0, h95])
              case measure => omega
            · have h95' : (((r : Nat) : Int) != 95) = true := by rw [bne_iff_ne]; omega
              have hf := STOP.out (by simp [runeOk, hL, hD]; omega)
              have HF := hide hf
              clear hf
              go_wp2_with (first | (go_at_call 140; refine (isLetter_any _ _ (by omega) (by omega) hT2).mono ?_; rintro e w3 ⟨rfl, hb3⟩) | (go_at_call 141; refine (digit_any _ _).mono ?_; rintro e w4 ⟨rfl, rfl⟩))
              go_ret
              exact ⟨by rw [HF.out]; rfl, below_then hb2 hb3⟩
    · have hnx := fun ty => Lib.run_next_end_at (P := Tryd.prog) wr w.heap.size s pos ty hit hlt
      have hT2 := hT.below hb
      have hfin : goodName s = (decide (1 ≤ n) && decide (n ≤ 20) && Lib.validD s.data.toList) := by
        unfold goodName
        rw [HG.out, gnLoop_end hlt]
      have HF := hide hfin
      clear hfin HG
      by_cases h1 : 1 ≤ n
      · by_cases h20 : n ≤ 20
        · go_wp2_with (go_at_call 142; refine (validString_any _ _ (by omega) hT2).mono ?_; rintro e w3 ⟨rfl, hb3⟩)
          go_ret
          exact ⟨by rw [HF.out]; simp [h1, h20], below_then hb hb3⟩
        · go_wp2_with fail
          go_ret
          exact ⟨by rw [HF.out]; simp [h20], hb⟩
      · go_wp2_with fail
        go_ret
        exact ⟨by rw [HF.out]; simp [h1], hb⟩
end Go.Proofs.YtjgegnjclmkpeaaDoor
