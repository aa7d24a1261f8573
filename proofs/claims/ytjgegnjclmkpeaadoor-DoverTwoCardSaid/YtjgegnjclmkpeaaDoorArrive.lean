/- The robust runner: the walk of arrive. -/
import Derived.Test.YtjgegnjclmkpeaaDoorRobPush
import Derived.Test.YtjgegnjclmkpeaaDoorRobInv
import Derived.Deep.LoopGhost
set_option linter.unusedVariables false
set_option linter.unusedSimpArgs false
namespace Go.Proofs.YtjgegnjclmkpeaaDoor
open Go.RowKit

/-- How many are taken. -/
def cntO (l : List Job) (s : RS) : Int := ((List.range l.length).map fun i => if Rob.opn s i 1 then (1 : Int) else 0).sum
theorem sum_zero (r : List Nat) : (r.map fun _ => (0 : Int)).sum = 0 := by
  induction r with
  | nil => rfl
  | cons a r ih => rw [List.map_cons, List.sum_cons, ih]; rfl
theorem cntO_nonneg (l : List Job) (s : RS) : 0 ≤ cntO l s := by
  unfold cntO
  have := sum_map_le (List.range l.length) (fun _ => (0 : Int)) (fun i => if Rob.opn s i 1 then (1 : Int) else 0) (fun i _ => by split <;> omega)
  simp only [sum_zero] at this
  exact this
theorem cntO_le (l : List Job) (s : RS) : cntO l s ≤ l.length := by
  unfold cntO
  have := sum_map_le (List.range l.length) (fun i => if Rob.opn s i 1 then (1 : Int) else 0) (fun _ => (1 : Int)) (fun i _ => by split <;> omega)
  have h2 : ∀ r : List Nat, (r.map fun _ => (1 : Int)).sum = r.length := fun r => by
    induction r with
    | nil => rfl
    | cons a r ih => simp [ih]; omega
  rw [h2] at this
  simpa using this
theorem cntO_drop {l : List Job} {s : RS} {k : Nat} (hk : k < l.length) (h : Rob.opn s k 1 = true) (hl : k < s.is.length) (q : List Int) : cntO l { s with is := s.is.set k 2, sh := q } + 1 ≤ cntO l s := by
  have hne : ∀ i, i ≠ k → Rob.opn { s with is := s.is.set k 2, sh := q } i 1 = Rob.opn s i 1 := fun i hi => by
    unfold Rob.opn Rob.isAt Rob.kindAt
    simp only [List.getD_eq_getElem?_getD, List.getElem?_set_ne (Ne.symm hi)]
  have heq : Rob.opn { s with is := s.is.set k 2, sh := q } k 1 = false := by
    unfold Rob.opn Rob.isAt
    simp only [List.getD_eq_getElem?_getD, List.getElem?_set_self hl]
    rfl
  unfold cntO
  refine sum_map_lt _ _ _ k (List.mem_range.2 hk) (fun i _ => ?_) ?_
  · by_cases hi : i = k
    · subst hi; rw [heq]; simp; split <;> omega
    · rw [hne i hi]; omega
  · rw [heq, h]; simp
section
variable {w0 w : World} {g : Nat} {A0 : Option Addr} {b0 o0 c0 : Nat} {l : List Job} {v : RV} {t : Int} {s : RS}
theorem RAt.g_ne_is (h : RAt w0 w g A0 b0 o0 c0 l v t s) : g ≠ v.bis := fun he => by
  subst he; exact own_ne_block h.ois h.blk (by decide) rfl
theorem RAt.fis (h : RAt w0 w g A0 b0 o0 c0 l v t s) (i : Nat) : w.frozen? ⟨v.bis, i, none⟩ = false := h.ois.frozenAt i
/-- How the list of those set aside lies. -/
theorem RAt.sh_form (h : RAt w0 w g A0 b0 o0 c0 l v t s) : (v.Ash = none ∧ s.sh = [] ∧ v.csh = 0) ∨ ∃ gs, v.Ash = some ⟨gs, 0, none⟩ ∧ s.sh.length ≤ v.csh ∧ v.csh ≤ maxLen := by
  rcases h.osh.2 with ⟨h0, hn0⟩ | ⟨g', cap', cur, hv, hg, hh, hn, hcap, hsz, htake⟩
  · simp only [Value.slice.injEq] at h0
    exact .inl ⟨h0.1, List.length_eq_zero_iff.1 hn0, h0.2.2⟩
  · simp only [Value.slice.injEq] at hv
    exact .inr ⟨g', hv.1, by rw [hv.2.2]; exact hn, by rw [hv.2.2]; exact hcap⟩
theorem restore_empty {m : Nat} (h : s.sh.length = m) : Rob.restore m s = { s with sh := s.sh.take m } := by
  unfold Rob.restore
  rw [List.drop_eq_nil_of_le (by omega)]
  rfl
theorem restore_part {m q : Nat} (h : m + q < s.sh.length) : ((s.sh.drop m).take (q + 1)).foldl (fun is x => is.set x.toNat 1) s.is = (((s.sh.drop m).take q).foldl (fun is x => is.set x.toNat 1) s.is).set (s.sh.getD (m + q) 0).toNat 1 := by
  rw [List.take_succ_eq_append_getElem (by rw [List.length_drop]; omega), List.foldl_append]
  simp [List.getD_eq_getElem?_getD, List.getElem?_eq_getElem h]
theorem restore_full {m : Nat} : ((s.sh.drop m).take (s.sh.length - m)).foldl (fun is x => is.set x.toNat 1) s.is = (Rob.restore m s).is := by
  rw [List.take_of_length_le (by rw [List.length_drop]; omega)]; rfl
theorem size_alloc (w : World) (o : Obj) : w.heap.size ≤ (w.alloc o).heap.size := by show w.heap.size ≤ (w.heap.push o).size; simp
theorem heap_alloc_set (w : World) (a : Addr) (u : Value) (o : Obj) : ((w.setCell a u).alloc o).heap[w.heap.size]? = some o := by
  have h : (w.setCell a u).heap.size = w.heap.size := by simp [World.setCell]
  rw [← h]; exact heap_alloc_new _ _
theorem cells1 (a : Int) : ∀ u ∈ [Value.int .i64 a], u.oneCell' = true := by
  intro u hu; simp at hu; subst hu; rfl
set_option maxHeartbeats 4000000 in
set_option maxRecDepth 100000 in
theorem arrive_any (h : RAt w0 w g A0 b0 o0 c0 l v t s) (hT : Tabs w0) (F : Fine l t s) (hl20 : l.length < 20) (i : Nat) (hi : i < l.length) (hsh : s.sh.length ≤ 1000000000) :
    Calls Tryd.prog 53 #[.pointer (some ⟨g, 0, none⟩), .int .i64 i] w fun e w' => e = .returned (.tuple #[]) ∧ ∃ v', RAt w0 w' g A0 b0 o0 c0 l v' t (Rob.arrive l t s i) := by
  have hn := h.jobs.len
  have mixed : Tryd.prog.follows .mixedOrders = true := by kernel_rfl
  obtain ⟨n, hn'⟩ : ∃ n, n = l.length := ⟨_, rfl⟩
  have HN := hide hn'
  obtain ⟨-, h1, -, -, -, h5, -, -⟩ := h.cells
  have hci := h.cis i hi
  have hfi := h.fis i
  have hgi := h.g_ne_is
  have hset := h.set_is i 1
  obtain ⟨m, hm'⟩ : ∃ m, m = s.sh.length := ⟨_, rfl⟩
  have HM := hide hm'
  have hin : i < n := by omega
  rw [← hn'] at hn h1 hl20
  rw [← hm'] at h5 hsh
  clear hn' hm'
  have HH : Aside0 _ := ⟨hset⟩
  have FF : Aside0 _ := ⟨F⟩
  have ht0 := F.t0
  have ht1 := F.t1
  clear h F hset
  go_enter Tryd.func53, Tryd.ntmps53
  go_wp2
  clear h1 hci hfi h5
  go_loopg [5] (n + 1) (fun f _ wr => ∃ (sk : RS) (v' : RV), Aside0 (RAt w0 wr g A0 b0 o0 c0 l v' t sk) ∧ Hid (Rob.arrLoop l t i m (n + 1) { s with is := s.is.set i 1 } = Rob.arrLoop l t i m f sk) ∧ Hid (cntO l sk < f) ∧ Hid (sk.ran = s.ran) ∧ Hid (∀ x ∈ sk.sh.drop m, 0 ≤ x ∧ x < l.length) ∧ m ≤ sk.sh.length ∧ sk.sh.length + f ≤ m + n + 1)
  case atStart => exact ⟨_, v, HH, rfl, by have := cntO_le l { s with is := s.is.set i 1 }; show _ < _; have := HN.out; omega, rfl, by show ∀ x ∈ _, _; simp [HM.out], by rw [HM.out]; exact Nat.le_refl _, by rw [HM.out]; show s.sh.length + _ ≤ _; omega⟩
  case round =>
    obtain ⟨sk, v', HR, HL, HC, HE, HD, hm1, hm2⟩ := hrel
    have hR := HR.out
    have Fk := FF.out.of_ran HE.out
    obtain ⟨-, -, -, -, -, -, -, d7⟩ := hR.cells
    have hfits := fits_any hR hT Fk (by rw [← HN.out]; exact hl20) t
    have HF : Aside0 _ := ⟨hfits⟩
    have hgk : ∃ f, gk = f + 1 := ⟨gk - 1, by have := HC.out; have := cntO_nonneg l sk; omega⟩
    obtain ⟨f, rfl⟩ := hgk
    have hA : Rob.arrive l t s i = Rob.arrLoop l t i m (f + 1) sk := by rw [← HL.out, HM.out, HN.out]; rfl
    have HA := hide hA
    have hstep : Rob.arrLoop l t i m (f + 1) sk = if Rob.fits l sk t then sk else if decide (Rob.least l sk < 0) then Rob.say (Rob.restore m sk) i 4 t else Rob.arrLoop l t i m f { sk with is := sk.is.set (Rob.least l sk).toNat 2, sh := sk.sh ++ [Rob.least l sk] } := rfl
    have HS := hide hstep
    clear hfits hA hstep
    cases hft : Rob.fits l sk t with
    | true =>
      rw [hft] at HF HS
      clear hft
      go_wp2_with (go_at_call 96; refine HF.out.mono ?_; rintro e w1 ⟨rfl, hb1⟩)
      go_end0
      exact ⟨rfl, v', by rw [HA.out, HS.out]; exact HR.out.below hb1⟩
    | false =>
      rw [hft] at HF HS
      clear hft
      have hleast : Aside0 (∀ W, Below wr.heap.size wr W → Calls Tryd.prog 97 #[.pointer (some ⟨g, 0, none⟩)] W fun e w' => e = .returned (.int .i64 (Rob.least l sk)) ∧ Below W.heap.size W w') := ⟨fun W hW => least_any (hR.below hW)⟩
      obtain ⟨sp0, sp1, sp2, -⟩ := Rob.least_spec l sk
      clear hR
      generalize Rob.least l sk = x at HS hleast sp0 sp1 sp2
      by_cases hx : x < 0
      · have hxd : decide (x < 0) = true := decide_eq_true hx
        have HXD := hide hxd
        clear hxd sp0 sp1 sp2
        rcases HR.out.sh_form with ⟨fa1, fa2, fa3⟩ | ⟨gs, fa1, fa2, fa3⟩
        · obtain rfl : m = 0 := by rw [fa2] at hm1; simpa using hm1
          have hc5 : ∀ W, Below wr.heap.size wr W → W.cell? ⟨g, 5, none⟩ = some (.slice none 0 0) := fun W hW => by
            obtain ⟨-, -, -, -, -, d5, -, -⟩ := (HR.out.below hW).cells
            rw [d5, fa1, fa2, fa3]; rfl
          have HC5 : Aside0 _ := ⟨hc5⟩
          have hcut : ∀ W, Below wr.heap.size wr W → RAt w0 (W.setCell ⟨g, 5, none⟩ (.slice none 0 0)) g A0 b0 o0 c0 l v' t { sk with sh := sk.sh.take 0 } := fun W hW => by
            have := (HR.out.below hW).cut_sh (m := 0) (Nat.zero_le _)
            rw [fa1, fa3] at this
            exact this
          have HCUT : Aside0 _ := ⟨hcut⟩
          have HRE := hide (restore_empty (s := sk) (m := 0) (by rw [fa2]; rfl))
          clear hc5 fa1 fa2 fa3 hcut
          go_wp2_with (first | (go_at_call 96; refine HF.out.mono ?_; rintro e w1 ⟨rfl, hb1⟩) | (go_at_call 97; refine (hleast.out w1 hb1).mono ?_; rintro e w2 ⟨rfl, hb2⟩; have d5 := HC5.out w2 (below_then hb1 hb2)))
          go_loopw [39] (fun q wr2 => q = .int .i64 0 ∧ wr2 = w2) (fun _ _ => 0)
          case atStart => exact ⟨rfl, rfl⟩
          case round =>
            obtain ⟨rfl, rfl⟩ := hrel
            have hcut := HCUT.out _ (below_then hb1 hb2)
            have hsay := say_any hcut i hi 4 0 ht0 (by omega) (by omega) (by omega)
            have hfr := (HR.out.below (below_then hb1 hb2)).free 5
            rw [Int.add_zero] at hsay
            have HSAY : Aside0 _ := ⟨hsay⟩
            clear hsay hcut
            go_wp2_with (go_at_call 56; refine HSAY.out.mono ?_; rintro e w3 ⟨rfl, hr3, hg3⟩)
            (try simp only [Exit.inBlock, Exit.then]); refine bodyPost_ret (results_none rfl _ _ _) rfl ?_
            exact ⟨rfl, v', by rw [HA.out, HS.out, HXD.out]; simp only [if_true, Bool.false_eq_true, if_false]; rw [HRE.out]; exact hr3⟩
        · have hc5 : ∀ W, Below wr.heap.size wr W → W.cell? ⟨g, 5, none⟩ = some (.slice (some ⟨gs, 0, none⟩) sk.sh.length v'.csh) := fun W hW => by
            obtain ⟨-, -, -, -, -, d5, -, -⟩ := (HR.out.below hW).cells
            rw [d5, fa1]
          have HC5 : Aside0 _ := ⟨hc5⟩
          have hcut : ∀ W, Below wr.heap.size wr W → RAt w0 (W.setCell ⟨g, 5, none⟩ (.slice (some ⟨gs, 0, none⟩) m v'.csh)) g A0 b0 o0 c0 l v' t { sk with sh := sk.sh.take m } := fun W hW => by
            have := (HR.out.below hW).cut_sh hm1
            rw [fa1] at this
            exact this
          have HCUT : Aside0 _ := ⟨hcut⟩
          have FA1 := hide fa1
          clear hc5 fa1 hcut
          generalize hsl : sk.sh.length = p at HC5 hm1 hm2 fa2
          generalize hcc : v'.csh = cc at HC5 fa2 fa3 HCUT
          have HSL := hide hsl
          have HCC := hide hcc
          clear hsl hcc
          unfold maxLen at fa3
          by_cases hcm : cc = m
          · subst hcm
            obtain rfl : p = cc := by omega
            have HRE := hide (restore_empty (s := sk) HSL.out)
            go_wp2_with (first | (go_at_call 96; refine HF.out.mono ?_; rintro e w1 ⟨rfl, hb1⟩) | (go_at_call 97; refine (hleast.out w1 hb1).mono ?_; rintro e w2 ⟨rfl, hb2⟩; have d5 := HC5.out w2 (below_then hb1 hb2)))
            go_loopw [39] (fun q wr2 => q = .int .i64 0 ∧ wr2 = w2) (fun _ _ => 0)
            case atStart => exact ⟨rfl, rfl⟩
            case round =>
              obtain ⟨rfl, rfl⟩ := hrel
              have hcut := HCUT.out _ (below_then hb1 hb2)
              have hsay := say_any hcut i hi 4 0 ht0 (by omega) (by omega) (by omega)
              have hfr := (HR.out.below (below_then hb1 hb2)).free 5
              rw [Int.add_zero] at hsay
              have HSAY : Aside0 _ := ⟨hsay⟩
              clear hsay hcut
              go_wp2_with (go_at_call 56; refine HSAY.out.mono ?_; rintro e w3 ⟨rfl, hr3, hg3⟩)
              (try simp only [Exit.inBlock, Exit.then]); refine bodyPost_ret (results_none rfl _ _ _) rfl ?_
              exact ⟨rfl, v', by rw [HA.out, HS.out, HXD.out]; simp only [if_true, Bool.false_eq_true, if_false]; rw [HRE.out]; exact hr3⟩
          · go_wp2_with (first | (go_at_call 96; refine HF.out.mono ?_; rintro e w1 ⟨rfl, hb1⟩) | (go_at_call 97; refine (hleast.out w1 hb1).mono ?_; rintro e w2 ⟨rfl, hb2⟩; have d5 := HC5.out w2 (below_then hb1 hb2)))
            have hb12 := below_then hb1 hb2
            have hR2 := HR.out.below hb12
            have HB12 : Aside0 _ := ⟨hb12⟩
            have hne := hR2.g_ne_is
            have HR2 : Aside0 _ := ⟨hR2⟩
            clear hR2 hb1 hb2 hb12 d5
            go_loopw [7, 39] (fun _ q wr2 => ∃ qn : Nat, qn ≤ p - m ∧ q = .int .i64 qn ∧ Aside0 (RAt w0 wr2 g A0 b0 o0 c0 l v' t { sk with is := ((sk.sh.drop m).take qn).foldl (fun is x => is.set x.toNat 1) sk.is })) (fun _ q _ => p - m - (intOf q).toNat)
            case atStart => exact ⟨0, by omega, rfl, HR2⟩
            case round =>
              obtain ⟨qn, hq, rfl, HRQ⟩ := hrel
              by_cases hqt : (qn : Int) < (p - m : Nat)
              · have hqn : m + qn < sk.sh.length := by rw [HSL.out]; omega
                obtain ⟨y0, y1⟩ := HD.out (sk.sh.getD (m + qn) 0) (by
                  rw [List.getD_eq_getElem?_getD, List.getElem?_eq_getElem hqn, Option.getD_some]
                  exact List.mem_iff_getElem.2 ⟨qn, by rw [List.length_drop]; omega, by rw [List.getElem_drop]⟩)
                have hosh : wr.ownsRow w0.heap.size 3 1 (.slice v'.Ash sk.sh.length v'.csh) sk.sh.length (ints sk.sh) := HRQ.out.osh
                rw [FA1.out] at hosh
                have hcell := own_int hosh (m + qn) hqn
                obtain ⟨-, d1, -, -, -, -, -, -⟩ := HRQ.out.cells
                rw [← HN.out] at d1
                have hpart := restore_part hqn
                have HP := hide hpart
                generalize sk.sh.getD (m + qn) 0 = y at hcell y0 y1 HP
                obtain ⟨yn, rfl⟩ : ∃ yn : Nat, y = yn := ⟨y.toNat, by omega⟩
                have hyl : yn < l.length := by omega
                have hyn : yn < n := by rw [HN.out]; exact hyl
                have hci := HRQ.out.cis yn hyl
                have hfi := HRQ.out.fis yn
                have hst := HRQ.out.set_is yn 1
                have HST : Aside0 _ := ⟨hst⟩
                clear hst hosh hpart y0 y1 hyl
                generalize Rob.isAt _ yn = z at hci
                go_wp2
                go_roundw
                case rel => exact ⟨qn + 1, by omega, by go_num, ⟨by rw [HP.out, Int.toNat_natCast]; exact HST.out⟩⟩
                case measure => simp [intOf]; omega
              · obtain rfl : qn = p - m := by omega
                have HRQ2 := HRQ
                rw [← HSL.out, restore_full] at HRQ2
                obtain ⟨-, -, -, -, -, d5, -, -⟩ := HRQ.out.cells
                have hfr := HRQ.out.free 5
                have hcut := HRQ2.out.cut_sh (m := m) (by show m ≤ sk.sh.length; rw [HSL.out]; exact hm1)
                have hsay := say_any hcut i hi 4 0 ht0 (by omega) (by omega) (by omega)
                rw [Int.add_zero] at hsay
                rw [FA1.out, HCC.out] at hsay
                rw [FA1.out, HCC.out] at d5
                replace d5 : wr.cell? ⟨g, 5, none⟩ = some (.slice (some ⟨gs, 0, none⟩) p cc) := by rw [d5, ← HSL.out]
                have HSAY : Aside0 _ := ⟨hsay⟩
                clear hsay hcut HRQ2
                go_wp2_with (go_at_call 56; refine HSAY.out.mono ?_; rintro e w3 ⟨rfl, hr3, hg3⟩)
                (try simp only [Exit.inBlock, Exit.then]); refine bodyPost_ret (results_none rfl _ _ _) rfl ?_
                exact ⟨rfl, v', by rw [HA.out, HS.out, HXD.out]; simp only [if_true, Bool.false_eq_true, if_false]; exact hr3⟩
      · obtain ⟨k, rfl⟩ : ∃ k : Nat, x = k := ⟨x.toNat, by omega⟩
        obtain ⟨q1, -, -⟩ := sp2 (by omega)
        have hkl : k < l.length := by omega
        have hkn : k < n := by rw [HN.out]; exact hkl
        have hxd : decide ((k : Int) < 0) = false := decide_eq_false hx
        have HXD := hide hxd
        have Q1 := hide q1
        clear hxd sp0 sp1 sp2 q1
        have hx2 : ¬ ((k : Int) < 0) := hx
        have hcs : ∀ W, Below wr.heap.size wr W → W.cell? ⟨g, 1, none⟩ = some (.slice (some ⟨v'.bis, 0, none⟩) n v'.cis) ∧ W.cell? ⟨v'.bis, k, none⟩ = some (.int .i64 (Rob.isAt sk k)) ∧ W.frozen? ⟨v'.bis, k, none⟩ = false ∧ W.cell? ⟨g, 5, none⟩ = some (.slice v'.Ash sk.sh.length v'.csh) := fun W hW => by
          have hRW := HR.out.below hW
          obtain ⟨-, d1, -, -, -, d5, -, -⟩ := hRW.cells
          rw [← HN.out] at d1
          exact ⟨d1, hRW.cis k hkl, hRW.fis k, d5⟩
        have HCS : Aside0 _ := ⟨hcs⟩
        have hne := HR.out.g_ne_is
        clear hcs
        obtain ⟨i0, hi, hzz⟩ := Option.map_eq_some_iff.1 (show (Tryd.prog.info? 3).map (fun i => (i.zero, i.size, i.bytes)) = some (some (.int .i64 0), 1, 8) by kernel_rfl)
        simp only [Prod.mk.injEq] at hzz
        obtain ⟨hz0, hz1, hz2⟩ := hzz
        have HI : Aside0 _ := ⟨And.intro hi (And.intro hz0 (And.intro hz1 hz2))⟩
        clear hi hz0 hz1 hz2
        have hsb : sk.sh.length + 1 ≤ 2000000000 := by omega
        go_wp2_with (first | (go_at_call 96; refine HF.out.mono ?_; rintro e w1 ⟨rfl, hb1⟩) | (go_at_call 97; refine (hleast.out w1 hb1).mono ?_; rintro e w2 ⟨rfl, hb2⟩; obtain ⟨d1, d2, d3, d5⟩ := HCS.out w2 (below_then hb1 hb2); have hR2 := ((HR.out.below hb1).below hb2).set_is k 2; have HR2 : Aside0 _ := ⟨hR2⟩; have ho2 := hR2.osh.alloc (.cells #[.int .i64 k] 3 (0, 0)); have hs2 := Nat.le_trans hR2.base.size (size_alloc _ (.cells #[.int .i64 k] 3 (0, 0))); have hnb := heap_alloc_set w2 ⟨v'.bis, k, none⟩ (.int .i64 2) (.cells #[.int .i64 k] 3 (0, 0)); clear hR2) | (at_builtin; refine wpList_append_lies _ (by rfl) (.tmp 75) (.tmp 77) 25 (by rfl) w0.heap.size 3 i0 (.int .i64 0) 1 8 Tryd.underlying25 HI.out.1 HI.out.2.1 HI.out.2.2.1 HI.out.2.2.2 (by rfl) (by omega) (.slice v'.Ash sk.sh.length v'.csh) sk.sh.length (ints sk.sh) (by rfl) ho2 ⟨w2.heap.size, 0, none⟩ 1 1 [.int .i64 k] (by rfl) (by rfl) (World.news_of_block hnb) (cells1 k) (by omega) (by unfold maxLen; omega) (by omega) hs2 _ (by rfl) ?_; intro g2 cap2 w3 ho3 hg3 hat3 hlt3; rw [ob_slice] at hg3 hat3; obtain ⟨c53, f53⟩ := (HR2.out.below (below_alloc (Below.refl _ _) _)).row_cells ho2 hg3 5; obtain ⟨-, -, -, -, -, c54, -, -⟩ := (HR2.out.below (below_alloc (Below.refl _ _) (.cells #[.int .i64 k] 3 (0, 0)))).cells; replace c53 := c53.trans c54; clear c54; have hrp := (HR2.out.below (below_alloc (Below.refl _ _) _)).push_sh hg3 ho3 (hat3.imp id (fun e => by rw [e]; exact Nat.le_refl _)); have HRP : Aside0 _ := ⟨hrp⟩; clear hrp ho3 hg3 hat3 ho2 hs2 hnb))
        go_roundg f
        case rel =>
          refine ⟨{ sk with is := sk.is.set k 2, sh := sk.sh ++ [(k : Int)] }, _, HRP, ?_, ?_, HE, ?_, ?_, ?_⟩
          · show _ = _; rw [HL.out, HS.out, HXD.out]; simp only [Bool.false_eq_true, if_false, Int.toNat_natCast]
          · have h1 := cntO_drop hkl Q1.out (by rw [HR.out.lis]; exact hkl) (sk.sh ++ [(k : Int)])
            have h2 := HC.out
            show _ < _
            omega
          · show ∀ x ∈ _, _
            intro x hx
            rw [List.drop_append_of_le_length hm1, List.mem_append] at hx
            rcases hx with hx | hx
            · exact HD.out x hx
            · simp only [List.mem_singleton] at hx
              subst hx
              omega
          · rw [List.length_append]; omega
          · show (sk.sh ++ [(k : Int)]).length + f ≤ _; rw [List.length_append, List.length_singleton]; omega
        case measure => omega
end
end Go.Proofs.YtjgegnjclmkpeaaDoor
