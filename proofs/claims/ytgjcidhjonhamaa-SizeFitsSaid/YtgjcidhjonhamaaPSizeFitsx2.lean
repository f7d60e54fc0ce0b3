-- PRINTED BY print.sh 35421559b90ae4d0a3588c463048766b98c2df88dd9212a6774a882060cdf62d: not written by this session
import Derived.Test.YtgjcidhjonhamaaPSizeFitsx0
import Derived.Test.YtgjcidhjonhamaaPSizeFitsx1
namespace Go.Proofs.Ytgjcidhjonhamaa.PSizeFits
open Go.RowKit Go.Proofs.YtgjcidhjonhamaaW.PrintWords Go.Proofs.YtgjcidhjonhamaaW.PrintLast Go.Proofs.YtgjcidhjonhamaaW.PrintMore
attribute [local go_sem] max2_int min2_int max_two min_two max_three min_three max_four min_four   -- for this text's walks alone
set_option linter.unusedVariables false
set_option linter.unusedSimpArgs false

/-! ### gloaminglaw4_SizeFits: function 3 -/
mutual
def gloaminglaw4_SizeFits.j0 : Nat → Int → Int → Int → Bool → Option (Bool)
  | 0, _, _, _, _ => none
  | k + 1, x3, x4, x5, x33 => if x33 = true then (some false) else (if x5 ≥ 0 then ((size_Sizes.f).bind fun t123 => (if x5 ≥ (t123.length : Int) then (some false) else (if 0 ≤ x5 then (if x5 < (t123.length : Int) then (if (rd t123 x5) = x4 then (if x5 > 0 then (if 0 ≤ (wrap64 (x5 - 1)) then (if (wrap64 (x5 - 1)) < (t123.length : Int) then (if (rd t123 (wrap64 (x5 - 1))) ≥ x3 then (some false) else ((size_Pages.f k x3).bind fun t128 => (if t128 = 0 then (gloaminglaw4_SizeFits.j1 k x3) else (some false)))) else (none)) else (none)) else ((size_Pages.f k x3).bind fun t129 => (if t129 = 0 then (gloaminglaw4_SizeFits.j1 k x3) else (some false)))) else (some false)) else (none)) else (none)))) else (if x3 ≤ 32 then (some false) else (if (Int.tmod x4 64) = 0 then (if (wrap64 (x4 - 64)) ≥ x3 then (some false) else ((size_Pages.f k x3).bind fun t130 => (if t130 = (wrap64 (Int.tdiv x4 64)) then (gloaminglaw4_SizeFits.j1 k x3) else (some false)))) else (some false))))
def gloaminglaw4_SizeFits.j1 : Nat → Int → Option (Bool)
  | 0, _ => none
  | k + 1, x3 => (size_Block.f k x3).bind fun t131 => ((size_Block.f k (wrap64 (x3 - 1))).bind fun t132 => (if t131 ≥ t132 then ((size_Block.f k 0).bind fun t133 => (if t133 = 0 then ((size_Block.f k 1025).bind fun t134 => (if t134 = 0 then ((size_Class.f k 33).bind fun t135 => (if t135 = (-1) then ((gloaminglaw4_awake.f k).bind fun t136 => (some t136)) else (some false))) else (some false))) else (some false))) else (some false)))
end
def gloaminglaw4_SizeFits.f (k : Nat) (a0 : Int) : Option (Bool) := (size_Block.f k (wrap64 (1 + (Int.tmod (wrap64 (a0)) 1024)))).bind fun t121 => ((size_Class.f k (wrap64 (1 + (Int.tmod (wrap64 (a0)) 1024)))).bind fun t122 => (if t121 < (wrap64 (1 + (Int.tmod (wrap64 (a0)) 1024))) then (gloaminglaw4_SizeFits.j0 k (wrap64 (1 + (Int.tmod (wrap64 (a0)) 1024))) t121 t122 true) else (if t121 > (wrap64 (2 * (wrap64 (1 + (Int.tmod (wrap64 (a0)) 1024))))) then (if t121 > 64 then (gloaminglaw4_SizeFits.j0 k (wrap64 (1 + (Int.tmod (wrap64 (a0)) 1024))) t121 t122 (decide (t121 ≥ (wrap64 ((wrap64 (1 + (Int.tmod (wrap64 (a0)) 1024))) + 64))))) else (gloaminglaw4_SizeFits.j0 k (wrap64 (1 + (Int.tmod (wrap64 (a0)) 1024))) t121 t122 false)) else (gloaminglaw4_SizeFits.j0 k (wrap64 (1 + (Int.tmod (wrap64 (a0)) 1024))) t121 t122 false))))
theorem gloaminglaw4_SizeFits.mono_l : ∀ k, (∀ y0 y1 y2 y3, LeO (gloaminglaw4_SizeFits.j0 k y0 y1 y2 y3) (gloaminglaw4_SizeFits.j0 (k + 1) y0 y1 y2 y3)) ∧ (∀ y0, LeO (gloaminglaw4_SizeFits.j1 k y0) (gloaminglaw4_SizeFits.j1 (k + 1) y0))
  | 0 => ⟨fun _ _ _ _ r h => by simp [gloaminglaw4_SizeFits.j0] at h, fun _ r h => by simp [gloaminglaw4_SizeFits.j1] at h⟩
  | k + 1 => by
    obtain ⟨ih0, ih1⟩ := gloaminglaw4_SizeFits.mono_l k
    refine ⟨?_, ?_⟩
    · intro y0 y1 y2 y3
      unfold gloaminglaw4_SizeFits.j0
      repeat' first
      | (with_reducible exact ih0 _ _ _ _)
      | (with_reducible exact ih1 _)
      | (with_reducible exact gloaminglaw4_awake.mono _)
      | (with_reducible exact size_Block.mono _ _)
      | (with_reducible exact size_Class.mono _ _)
      | (with_reducible exact size_Pages.mono _ _)
      | (with_reducible exact LeO.refl _)
      | (with_reducible exact LeO.none _)
      | (with_reducible refine LeO.ite ?_ ?_)
      | (with_reducible refine LeO.bind ?_ (fun _ => ?_))
      | exact ih0 _ _ _ _
      | exact ih1 _
      | exact gloaminglaw4_awake.mono _
      | exact size_Block.mono _ _
      | exact size_Class.mono _ _
      | exact size_Pages.mono _ _
      | exact LeO.none _
      | refine LeO.ite ?_ ?_
      | refine LeO.bind ?_ (fun _ => ?_)
    · intro y0
      unfold gloaminglaw4_SizeFits.j1
      repeat' first
      | (with_reducible exact ih0 _ _ _ _)
      | (with_reducible exact ih1 _)
      | (with_reducible exact gloaminglaw4_awake.mono _)
      | (with_reducible exact size_Block.mono _ _)
      | (with_reducible exact size_Class.mono _ _)
      | (with_reducible exact size_Pages.mono _ _)
      | (with_reducible exact LeO.refl _)
      | (with_reducible exact LeO.none _)
      | (with_reducible refine LeO.ite ?_ ?_)
      | (with_reducible refine LeO.bind ?_ (fun _ => ?_))
      | exact ih0 _ _ _ _
      | exact ih1 _
      | exact gloaminglaw4_awake.mono _
      | exact size_Block.mono _ _
      | exact size_Class.mono _ _
      | exact size_Pages.mono _ _
      | exact LeO.none _
      | refine LeO.ite ?_ ?_
      | refine LeO.bind ?_ (fun _ => ?_)
theorem gloaminglaw4_SizeFits.mono : ∀ a0 k, LeO (gloaminglaw4_SizeFits.f k a0) (gloaminglaw4_SizeFits.f (k + 1) a0) := by
  intro a0 k
  obtain ⟨ih0, ih1⟩ := gloaminglaw4_SizeFits.mono_l k
  unfold gloaminglaw4_SizeFits.f
  repeat' first
      | (with_reducible exact ih0 _ _ _ _)
      | (with_reducible exact ih1 _)
      | (with_reducible exact gloaminglaw4_awake.mono _)
      | (with_reducible exact size_Block.mono _ _)
      | (with_reducible exact size_Class.mono _ _)
      | (with_reducible exact size_Pages.mono _ _)
      | (with_reducible exact LeO.refl _)
      | (with_reducible exact LeO.none _)
      | (with_reducible refine LeO.ite ?_ ?_)
      | (with_reducible refine LeO.bind ?_ (fun _ => ?_))
      | exact ih0 _ _ _ _
      | exact ih1 _
      | exact gloaminglaw4_awake.mono _
      | exact size_Block.mono _ _
      | exact size_Class.mono _ _
      | exact size_Pages.mono _ _
      | exact LeO.none _
      | refine LeO.ite ?_ ?_
      | refine LeO.bind ?_ (fun _ => ?_)
set_option maxHeartbeats 8000000 in
set_option maxRecDepth 100000 in
theorem gloaminglaw4_SizeFits.calls (k : Nat) (a0 : Int) (r : Bool) (w : World) (h : gloaminglaw4_SizeFits.f k a0 = some r) :
    Calls Try.prog 3 #[.int .u16 a0] w fun e w' => e = .returned (.bool r) ∧ Below w.heap.size w w' := by
  have HB := Aside0.mk (Below.refl w.heap.size w)
  have H : ((size_Block.f k (wrap64 (1 + (Int.tmod (wrap64 (a0)) 1024)))).bind fun t121 => ((size_Class.f k (wrap64 (1 + (Int.tmod (wrap64 (a0)) 1024)))).bind fun t122 => (if t121 < (wrap64 (1 + (Int.tmod (wrap64 (a0)) 1024))) then (gloaminglaw4_SizeFits.j0 k (wrap64 (1 + (Int.tmod (wrap64 (a0)) 1024))) t121 t122 true) else (if t121 > (wrap64 (2 * (wrap64 (1 + (Int.tmod (wrap64 (a0)) 1024))))) then (if t121 > 64 then (gloaminglaw4_SizeFits.j0 k (wrap64 (1 + (Int.tmod (wrap64 (a0)) 1024))) t121 t122 (decide (t121 ≥ (wrap64 ((wrap64 (1 + (Int.tmod (wrap64 (a0)) 1024))) + 64))))) else (gloaminglaw4_SizeFits.j0 k (wrap64 (1 + (Int.tmod (wrap64 (a0)) 1024))) t121 t122 false)) else (gloaminglaw4_SizeFits.j0 k (wrap64 (1 + (Int.tmod (wrap64 (a0)) 1024))) t121 t122 false))))) = some r := h
  clear h
  replace H := Option.bind_eq_some_iff.mp H
  obtain ⟨t121, A20, H⟩ := H
  replace H : ((size_Class.f k (wrap64 (1 + (Int.tmod (wrap64 (a0)) 1024)))).bind fun t122 => (if t121 < (wrap64 (1 + (Int.tmod (wrap64 (a0)) 1024))) then (gloaminglaw4_SizeFits.j0 k (wrap64 (1 + (Int.tmod (wrap64 (a0)) 1024))) t121 t122 true) else (if t121 > (wrap64 (2 * (wrap64 (1 + (Int.tmod (wrap64 (a0)) 1024))))) then (if t121 > 64 then (gloaminglaw4_SizeFits.j0 k (wrap64 (1 + (Int.tmod (wrap64 (a0)) 1024))) t121 t122 (decide (t121 ≥ (wrap64 ((wrap64 (1 + (Int.tmod (wrap64 (a0)) 1024))) + 64))))) else (gloaminglaw4_SizeFits.j0 k (wrap64 (1 + (Int.tmod (wrap64 (a0)) 1024))) t121 t122 false)) else (gloaminglaw4_SizeFits.j0 k (wrap64 (1 + (Int.tmod (wrap64 (a0)) 1024))) t121 t122 false)))) = some r := H
  have A2 := Aside0.mk A20
  clear A20
  replace H := Option.bind_eq_some_iff.mp H
  obtain ⟨t122, A30, H⟩ := H
  replace H : (if t121 < (wrap64 (1 + (Int.tmod (wrap64 (a0)) 1024))) then (gloaminglaw4_SizeFits.j0 k (wrap64 (1 + (Int.tmod (wrap64 (a0)) 1024))) t121 t122 true) else (if t121 > (wrap64 (2 * (wrap64 (1 + (Int.tmod (wrap64 (a0)) 1024))))) then (if t121 > 64 then (gloaminglaw4_SizeFits.j0 k (wrap64 (1 + (Int.tmod (wrap64 (a0)) 1024))) t121 t122 (decide (t121 ≥ (wrap64 ((wrap64 (1 + (Int.tmod (wrap64 (a0)) 1024))) + 64))))) else (gloaminglaw4_SizeFits.j0 k (wrap64 (1 + (Int.tmod (wrap64 (a0)) 1024))) t121 t122 false)) else (gloaminglaw4_SizeFits.j0 k (wrap64 (1 + (Int.tmod (wrap64 (a0)) 1024))) t121 t122 false))) = some r := H
  have A3 := Aside0.mk A30
  clear A30
  have HC4 := Aside0.mk H
  clear H
  go_enter Try.func3, Try.ntmps3
  go_upto_region 4 with (first | ((with_reducible refine gate_callee (f := 12) rfl ?_); refine goesL_ (some 12) rfl rfl Try.func12 (by kernel_rfl) rfl #[.int .i64 (wrap64 (1 + (Int.tmod (wrap64 (a0)) 1024)))] rfl (by (try simp only [List.map_toArray, List.map_cons, List.map_nil]); first | done | rfl | (simp only [List.length_drop, List.length_take]; rfl)) ?_; (with_reducible refine (size_Block.calls k (wrap64 (1 + (Int.tmod (wrap64 (a0)) 1024))) t121 _ A2.out).mono ?_); rintro e w5 ⟨rfl, hb⟩; refine ⟨_, rfl, ?_⟩; have n0_ := Aside0.mk (below_step (by repeat (first | (with_reducible first | exact HB.out | apply below_alloc | apply pw_below_drewN | apply below_drew1) | exact HB.out)) hb); clear HB; have HB := n0_; clear n0_; (try clear hb); (try clear hb2); (try clear hk); (try clear hi)) | ((with_reducible refine gate_callee (f := 13) rfl ?_); refine goesL_ (some 14) rfl rfl Try.func13 (by kernel_rfl) rfl #[.int .i64 (wrap64 (1 + (Int.tmod (wrap64 (a0)) 1024)))] rfl (by (try simp only [List.map_toArray, List.map_cons, List.map_nil]); first | done | rfl | (simp only [List.length_drop, List.length_take]; rfl)) ?_; (with_reducible refine (size_Class.calls k (wrap64 (1 + (Int.tmod (wrap64 (a0)) 1024))) t122 _ A3.out).mono ?_); rintro e w6 ⟨rfl, hb⟩; refine ⟨_, rfl, ?_⟩; have n0_ := Aside0.mk (below_step (by repeat (first | (with_reducible first | exact HB.out | apply below_alloc | apply pw_below_drewN | apply below_drew1) | exact HB.out)) hb); clear HB; have HB := n0_; clear n0_; (try clear hb); (try clear hb2); (try clear hk); (try clear hi)))
  (try simp only [Act.put, List.setIfInBounds_toArray, List.set_cons_zero, List.set_cons_succ])
  go_cut [33] (fun v33 wc => ∃ (kq : Nat) (x33_3 : Bool), v33 = .bool x33_3 ∧ Aside0 (gloaminglaw4_SizeFits.j0 kq (wrap64 (1 + (Int.tmod (wrap64 (a0)) 1024))) t121 t122 x33_3 = some r) ∧ Aside0 (kq ≤ k) ∧ Aside0 (Below w.heap.size w wc))
  case first =>
    have H := HC4.out
    clear HC4
    by_cases c7 : t121 < (wrap64 (1 + (Int.tmod (wrap64 (a0)) 1024)))
    · rw [if_pos c7] at H
      have c7b0 : decide (t121 < (wrap64 (1 + (Int.tmod (wrap64 (a0)) 1024)))) = true := decide_eq_true c7
      clear c7
      (first | rw [c7b0] | (simp only [i64_w, i32_w]; rw [c7b0]) | skip)
      have H' := Aside0.mk H
      clear H
      go_wp2
      go_meet
      case rel => exact ⟨_, (true), (by first | rfl | (simp; done) | (simp [*]; done)), H', ⟨by first | omega | exact Nat.le_refl _⟩, ⟨by repeat (first | (with_reducible first | exact HB.out | apply below_alloc | apply pw_below_drewN | apply below_drew1) | exact HB.out)⟩⟩
    · rw [if_neg c7] at H
      have c7b0 : decide (t121 < (wrap64 (1 + (Int.tmod (wrap64 (a0)) 1024)))) = false := decide_eq_false c7
      clear c7
      (first | rw [c7b0] | (simp only [i64_w, i32_w]; rw [c7b0]) | skip)
      by_cases c8 : t121 > (wrap64 (2 * (wrap64 (1 + (Int.tmod (wrap64 (a0)) 1024)))))
      · rw [if_pos c8] at H
        have c8b0 : decide ((wrap64 (2 * (wrap64 (1 + (Int.tmod (wrap64 (a0)) 1024))))) < t121) = true := decide_eq_true c8
        clear c8
        by_cases c9 : t121 > 64
        · rw [if_pos c9] at H
          have c9b0 : decide (64 < t121) = true := decide_eq_true c9
          clear c9
          have H' := Aside0.mk H
          clear H
          go_wp2
          go_meet
          case rel => exact ⟨_, (decide (t121 ≥ (wrap64 ((wrap64 (1 + (Int.tmod (wrap64 (a0)) 1024))) + 64)))), (by first | rfl | (simp; done) | (simp [*]; done)), H', ⟨by first | omega | exact Nat.le_refl _⟩, ⟨by repeat (first | (with_reducible first | exact HB.out | apply below_alloc | apply pw_below_drewN | apply below_drew1) | exact HB.out)⟩⟩
        · rw [if_neg c9] at H
          have c9b0 : decide (64 < t121) = false := decide_eq_false c9
          clear c9
          have H' := Aside0.mk H
          clear H
          go_wp2
          go_meet
          case rel => exact ⟨_, (false), (by first | rfl | (simp; done) | (simp [*]; done)), H', ⟨by first | omega | exact Nat.le_refl _⟩, ⟨by repeat (first | (with_reducible first | exact HB.out | apply below_alloc | apply pw_below_drewN | apply below_drew1) | exact HB.out)⟩⟩
      · rw [if_neg c8] at H
        have c8b0 : decide ((wrap64 (2 * (wrap64 (1 + (Int.tmod (wrap64 (a0)) 1024))))) < t121) = false := decide_eq_false c8
        clear c8
        have H' := Aside0.mk H
        clear H
        go_wp2
        go_meet
        case rel => exact ⟨_, (false), (by first | rfl | (simp; done) | (simp [*]; done)), H', ⟨by first | omega | exact Nat.le_refl _⟩, ⟨by repeat (first | (with_reducible first | exact HB.out | apply below_alloc | apply pw_below_drewN | apply below_drew1) | exact HB.out)⟩⟩
  case rest =>
    clear HC4
    try clear c1
    try clear p2
    try clear c3
    try clear p6
    try clear c7
    try clear c7b0
    try clear c8
    try clear c8b0
    try clear c9
    try clear c9b0
    obtain ⟨kq, x33_3, rfl, HA, HJ3, HB⟩ := hcut
    cases kq with
    | zero => exact absurd HA.out (by simp [gloaminglaw4_SizeFits.j0])
    | succ kj3 =>
      have H := HA.out
      clear HA
      simp only [gloaminglaw4_SizeFits.j0] at H
      by_cases c10 : x33_3 = true
      · subst c10
        have H1 : (some false) = some r := by rw [if_pos rfl] at H; exact H
        clear H
        have H := H1
        clear H1
        obtain rfl := Option.some.inj H
        go_wp2
        go_ret
        exact ⟨by first | rfl | (simp [errW_none, errW_some] <;> rfl) | (simp [*, errW_none, errW_some] <;> rfl), by repeat (first | (with_reducible first | exact HB.out | apply below_alloc | apply pw_below_drewN | apply below_drew1) | exact HB.out)⟩
      · replace c10 := Bool.eq_false_iff.mpr c10
        subst c10
        have H1 : (if t122 ≥ 0 then ((size_Sizes.f).bind fun t123 => (if t122 ≥ (t123.length : Int) then (some false) else (if 0 ≤ t122 then (if t122 < (t123.length : Int) then (if (rd t123 t122) = t121 then (if t122 > 0 then (if 0 ≤ (wrap64 (t122 - 1)) then (if (wrap64 (t122 - 1)) < (t123.length : Int) then (if (rd t123 (wrap64 (t122 - 1))) ≥ (wrap64 (1 + (Int.tmod (wrap64 (a0)) 1024))) then (some false) else ((size_Pages.f kj3 (wrap64 (1 + (Int.tmod (wrap64 (a0)) 1024)))).bind fun t128 => (if t128 = 0 then (gloaminglaw4_SizeFits.j1 kj3 (wrap64 (1 + (Int.tmod (wrap64 (a0)) 1024)))) else (some false)))) else (none)) else (none)) else ((size_Pages.f kj3 (wrap64 (1 + (Int.tmod (wrap64 (a0)) 1024)))).bind fun t129 => (if t129 = 0 then (gloaminglaw4_SizeFits.j1 kj3 (wrap64 (1 + (Int.tmod (wrap64 (a0)) 1024)))) else (some false)))) else (some false)) else (none)) else (none)))) else (if (wrap64 (1 + (Int.tmod (wrap64 (a0)) 1024))) ≤ 32 then (some false) else (if (Int.tmod t121 64) = 0 then (if (wrap64 (t121 - 64)) ≥ (wrap64 (1 + (Int.tmod (wrap64 (a0)) 1024))) then (some false) else ((size_Pages.f kj3 (wrap64 (1 + (Int.tmod (wrap64 (a0)) 1024)))).bind fun t130 => (if t130 = (wrap64 (Int.tdiv t121 64)) then (gloaminglaw4_SizeFits.j1 kj3 (wrap64 (1 + (Int.tmod (wrap64 (a0)) 1024)))) else (some false)))) else (some false)))) = some r := by rw [if_neg (show ¬ (false = true) by decide)] at H; exact H
        clear H
        have H := H1
        clear H1
        have HC11 := Aside0.mk H
        clear H
        go_upto_if 35 with (fail)
        go_cut [] (fun wc => ∃ (kq : Nat), Aside0 (gloaminglaw4_SizeFits.j1 kq (wrap64 (1 + (Int.tmod (wrap64 (a0)) 1024))) = some r) ∧ Aside0 (kq ≤ kj3) ∧ Aside0 (Below w.heap.size w wc))
        case first =>
          have H := HC11.out
          clear HC11
          by_cases c12 : t122 ≥ 0
          · rw [if_pos c12] at H
            have c12b0 : decide (0 ≤ t122) = true := decide_eq_true c12
            clear c12
            (first | rw [c12b0] | (simp only [i64_w, i32_w]; rw [c12b0]) | skip)
            replace H := Option.bind_eq_some_iff.mp H
            obtain ⟨t123, A130, H⟩ := H
            replace H : (if t122 ≥ (t123.length : Int) then (some false) else (if 0 ≤ t122 then (if t122 < (t123.length : Int) then (if (rd t123 t122) = t121 then (if t122 > 0 then (if 0 ≤ (wrap64 (t122 - 1)) then (if (wrap64 (t122 - 1)) < (t123.length : Int) then (if (rd t123 (wrap64 (t122 - 1))) ≥ (wrap64 (1 + (Int.tmod (wrap64 (a0)) 1024))) then (some false) else ((size_Pages.f kj3 (wrap64 (1 + (Int.tmod (wrap64 (a0)) 1024)))).bind fun t128 => (if t128 = 0 then (gloaminglaw4_SizeFits.j1 kj3 (wrap64 (1 + (Int.tmod (wrap64 (a0)) 1024)))) else (some false)))) else (none)) else (none)) else ((size_Pages.f kj3 (wrap64 (1 + (Int.tmod (wrap64 (a0)) 1024)))).bind fun t129 => (if t129 = 0 then (gloaminglaw4_SizeFits.j1 kj3 (wrap64 (1 + (Int.tmod (wrap64 (a0)) 1024)))) else (some false)))) else (some false)) else (none)) else (none))) = some r := H
            have A13 := Aside0.mk A130
            clear A130
            by_cases c14 : t122 ≥ (t123.length : Int)
            · rw [if_pos c14] at H
              have c14b0 : decide ((t123.length : Int) ≤ t122) = true := decide_eq_true c14
              clear c14
              obtain rfl := Option.some.inj H
              go_wp2_with (first | ((with_reducible refine gate_callee (f := 14) rfl ?_); refine goesL_ (some 36) rfl rfl Try.func14 (by kernel_rfl) rfl #[] rfl (by (try simp only [List.map_toArray, List.map_cons, List.map_nil]); first | done | rfl | (simp only [List.length_drop, List.length_take]; rfl)) ?_; (with_reducible refine (size_Sizes.calls  t123 _ A13.out).mono ?_); rintro e w15 ⟨v124, rfl, ho0, hb⟩; refine ⟨_, rfl, ?_⟩; have n0_ := Aside0.mk (Kd.R_lower ho0 (below_size (by repeat (first | (with_reducible first | exact HB.out | apply below_alloc | apply pw_below_drewN | apply below_drew1) | exact HB.out)))); have n1_ := Aside0.mk (below_step (by repeat (first | (with_reducible first | exact HB.out | apply below_alloc | apply pw_below_drewN | apply below_drew1) | exact HB.out)) hb); clear HB; have HO125 := n0_; have HB := n1_; clear n0_ n1_; (try clear hb); (try clear hb2); (try clear hk); (try clear hi); (try clear ho0); obtain ⟨Ao16, co16, eo16⟩ := Kd.R_slice HO125.out; subst eo16))
              go_ret
              exact ⟨by first | rfl | (simp [errW_none, errW_some] <;> rfl) | (simp [*, errW_none, errW_some] <;> rfl), by repeat (first | (with_reducible first | exact HB.out | apply below_alloc | apply pw_below_drewN | apply below_drew1) | exact HB.out)⟩
            · rw [if_neg c14] at H
              have c14b0 : decide ((t123.length : Int) ≤ t122) = false := decide_eq_false c14
              clear c14
              by_cases c17 : 0 ≤ t122
              · rw [if_pos c17] at H
                have c17b0 : decide (0 ≤ t122) = true := decide_eq_true c17
                clear c17
                by_cases c18 : t122 < (t123.length : Int)
                · rw [if_pos c18] at H
                  have c18b0 : decide (t122 < (t123.length : Int)) = true := decide_eq_true c18
                  clear c18
                  by_cases c19 : (rd t123 t122) = t121
                  · rw [if_pos c19] at H
                    have c19b0 : ((rd t123 t122) == t121) = true := beq_iff_eq.mpr c19
                    have c19b1 : ((rd t123 t122) != t121) = false := bne_eq_false_iff_eq.mpr c19
                    clear c19
                    by_cases c20 : t122 > 0
                    · rw [if_pos c20] at H
                      have c20b0 : decide (0 < t122) = true := decide_eq_true c20
                      clear c20
                      obtain ⟨ji21, hji21⟩ : ∃ j_ : Int, (wrap64 (t122 - 1)) = j_ := ⟨_, rfl⟩
                      replace H : (if 0 ≤ (ji21) then (if (ji21) < (t123.length : Int) then (if (rd t123 (ji21)) ≥ (wrap64 (1 + (Int.tmod (wrap64 (a0)) 1024))) then (some false) else ((size_Pages.f kj3 (wrap64 (1 + (Int.tmod (wrap64 (a0)) 1024)))).bind fun t128 => (if t128 = 0 then (gloaminglaw4_SizeFits.j1 kj3 (wrap64 (1 + (Int.tmod (wrap64 (a0)) 1024)))) else (some false)))) else (none)) else (none)) = some r := by first | (rw [hji21] at H; exact H) | (simp only [hji21] at H ⊢; exact H)
                      (try rw [hji21] at A13)
                      have hji21w : (IntKind.i64.wrap (t122 - 1)) = ji21 := (i64_w _).trans hji21
                      by_cases c22 : 0 ≤ (ji21)
                      · rw [if_pos c22] at H
                        have c22b0 : decide (0 ≤ (ji21)) = true := decide_eq_true c22
                        clear c22
                        by_cases c23 : (ji21) < (t123.length : Int)
                        · rw [if_pos c23] at H
                          have c23b0 : decide ((ji21) < (t123.length : Int)) = true := decide_eq_true c23
                          clear c23
                          by_cases c24 : (rd t123 (ji21)) ≥ (wrap64 (1 + (Int.tmod (wrap64 (a0)) 1024)))
                          · rw [if_pos c24] at H
                            have c24b0 : decide ((wrap64 (1 + (Int.tmod (wrap64 (a0)) 1024))) ≤ (rd t123 (ji21))) = true := decide_eq_true c24
                            clear c24
                            obtain rfl := Option.some.inj H
                            go_wp2_with (first | ((with_reducible refine gate_callee (f := 14) rfl ?_); refine goesL_ (some 36) rfl rfl Try.func14 (by kernel_rfl) rfl #[] rfl (by (try simp only [List.map_toArray, List.map_cons, List.map_nil]); first | done | rfl | (simp only [List.length_drop, List.length_take]; rfl)) ?_; (with_reducible refine (size_Sizes.calls  t123 _ A13.out).mono ?_); rintro e w25 ⟨v124, rfl, ho0, hb⟩; refine ⟨_, rfl, ?_⟩; have n0_ := Aside0.mk (Kd.R_lower ho0 (below_size (by repeat (first | (with_reducible first | exact HB.out | apply below_alloc | apply pw_below_drewN | apply below_drew1) | exact HB.out)))); have n1_ := Aside0.mk (below_step (by repeat (first | (with_reducible first | exact HB.out | apply below_alloc | apply pw_below_drewN | apply below_drew1) | exact HB.out)) hb); clear HB; have HO125 := n0_; have HB := n1_; clear n0_ n1_; (try clear hb); (try clear hb2); (try clear hk); (try clear hi); (try clear ho0); obtain ⟨Ao26, co26, eo26⟩ := Kd.R_slice HO125.out; subst eo26; have p126 : 0 ≤ (t122 : Int) := of_decide_eq_true (by first | (with_reducible assumption) | assumption); have q126 : t122 < (t123.length : Int) := of_decide_eq_true (by first | (with_reducible assumption) | assumption); obtain ⟨ad126, e126, hx126_0⟩ := Kd.at_int (Kd.R_reads' HO125.out).2.2 t122 p126 q126; cases e126; replace p126 := eq_true p126; replace q126 := eq_true q126; have p127 : 0 ≤ ((ji21) : Int) := of_decide_eq_true (by first | (with_reducible assumption) | assumption); have q127 : (ji21) < (t123.length : Int) := of_decide_eq_true (by first | (with_reducible assumption) | assumption); obtain ⟨ad127, e127, hx127_0⟩ := Kd.at_int (Kd.R_reads' HO125.out).2.2 (ji21) p127 q127; obtain rfl : ad126 = ad127 := (by injection e127); replace p127 := eq_true p127; replace q127 := eq_true q127))
                            go_ret
                            exact ⟨by first | rfl | (simp [errW_none, errW_some] <;> rfl) | (simp only [← hji21]; first | rfl | (simp [errW_none, errW_some] <;> rfl)) | (simp [*, errW_none, errW_some] <;> rfl), by repeat (first | (with_reducible first | exact HB.out | apply below_alloc | apply pw_below_drewN | apply below_drew1) | exact HB.out)⟩
                          · rw [if_neg c24] at H
                            have c24b0 : decide ((wrap64 (1 + (Int.tmod (wrap64 (a0)) 1024))) ≤ (rd t123 (ji21))) = false := decide_eq_false c24
                            clear c24
                            replace H := Option.bind_eq_some_iff.mp H
                            obtain ⟨t128, A270, H⟩ := H
                            replace H : (if t128 = 0 then (gloaminglaw4_SizeFits.j1 kj3 (wrap64 (1 + (Int.tmod (wrap64 (a0)) 1024)))) else (some false)) = some r := H
                            have A27 := Aside0.mk A270
                            clear A270
                            by_cases c28 : t128 = 0
                            · rw [if_pos c28] at H
                              have c28b0 : (t128 == 0) = true := beq_iff_eq.mpr c28
                              have c28b1 : (t128 != 0) = false := bne_eq_false_iff_eq.mpr c28
                              clear c28
                              have H' := Aside0.mk H
                              clear H
                              go_wp2_with (first | ((with_reducible refine gate_callee (f := 14) rfl ?_); refine goesL_ (some 36) rfl rfl Try.func14 (by kernel_rfl) rfl #[] rfl (by (try simp only [List.map_toArray, List.map_cons, List.map_nil]); first | done | rfl | (simp only [List.length_drop, List.length_take]; rfl)) ?_; (with_reducible refine (size_Sizes.calls  t123 _ A13.out).mono ?_); rintro e w29 ⟨v124, rfl, ho0, hb⟩; refine ⟨_, rfl, ?_⟩; have n0_ := Aside0.mk (Kd.R_lower ho0 (below_size (by repeat (first | (with_reducible first | exact HB.out | apply below_alloc | apply pw_below_drewN | apply below_drew1) | exact HB.out)))); have n1_ := Aside0.mk (below_step (by repeat (first | (with_reducible first | exact HB.out | apply below_alloc | apply pw_below_drewN | apply below_drew1) | exact HB.out)) hb); clear HB; have HO125 := n0_; have HB := n1_; clear n0_ n1_; (try clear hb); (try clear hb2); (try clear hk); (try clear hi); (try clear ho0); obtain ⟨Ao30, co30, eo30⟩ := Kd.R_slice HO125.out; subst eo30; have p126 : 0 ≤ (t122 : Int) := of_decide_eq_true (by first | (with_reducible assumption) | assumption); have q126 : t122 < (t123.length : Int) := of_decide_eq_true (by first | (with_reducible assumption) | assumption); obtain ⟨ad126, e126, hx126_0⟩ := Kd.at_int (Kd.R_reads' HO125.out).2.2 t122 p126 q126; cases e126; replace p126 := eq_true p126; replace q126 := eq_true q126; have p127 : 0 ≤ ((ji21) : Int) := of_decide_eq_true (by first | (with_reducible assumption) | assumption); have q127 : (ji21) < (t123.length : Int) := of_decide_eq_true (by first | (with_reducible assumption) | assumption); obtain ⟨ad127, e127, hx127_0⟩ := Kd.at_int (Kd.R_reads' HO125.out).2.2 (ji21) p127 q127; obtain rfl : ad126 = ad127 := (by injection e127); replace p127 := eq_true p127; replace q127 := eq_true q127) | (go_at_call 15; (with_reducible refine (size_Pages.calls kj3 (wrap64 (1 + (Int.tmod (wrap64 (a0)) 1024))) t128 _ A27.out).mono ?_); rintro e w31 ⟨rfl, hb⟩; have n0_ := Aside0.mk (Kd.R_below (by (with_reducible repeat (first | apply Kd.R_alloc | apply Kd.R_drewN | apply Kd.R_drew)); exact HO125.out) hb); have n1_ := Aside0.mk (below_step (by repeat (first | (with_reducible first | exact HB.out | apply below_alloc | apply pw_below_drewN | apply below_drew1) | exact HB.out)) hb); clear HO125; clear HB; have HO125 := n0_; have HB := n1_; clear n0_ n1_; (try clear hb); (try clear hb2); (try clear hk); (try clear hi)))
                              go_meet
                              case rel => exact ⟨_, H', ⟨by have := HJ3.out; first | omega | exact Nat.le_refl _⟩, ⟨by repeat (first | (with_reducible first | exact HB.out | apply below_alloc | apply pw_below_drewN | apply below_drew1) | exact HB.out)⟩⟩
                            · rw [if_neg c28] at H
                              have c28b0 : (t128 == 0) = false := beq_eq_false_iff_ne.mpr c28
                              have c28b1 : (t128 != 0) = true := bne_iff_ne.mpr c28
                              obtain rfl := Option.some.inj H
                              go_wp2_with (first | ((with_reducible refine gate_callee (f := 14) rfl ?_); refine goesL_ (some 36) rfl rfl Try.func14 (by kernel_rfl) rfl #[] rfl (by (try simp only [List.map_toArray, List.map_cons, List.map_nil]); first | done | rfl | (simp only [List.length_drop, List.length_take]; rfl)) ?_; (with_reducible refine (size_Sizes.calls  t123 _ A13.out).mono ?_); rintro e w32 ⟨v124, rfl, ho0, hb⟩; refine ⟨_, rfl, ?_⟩; have n0_ := Aside0.mk (Kd.R_lower ho0 (below_size (by repeat (first | (with_reducible first | exact HB.out | apply below_alloc | apply pw_below_drewN | apply below_drew1) | exact HB.out)))); have n1_ := Aside0.mk (below_step (by repeat (first | (with_reducible first | exact HB.out | apply below_alloc | apply pw_below_drewN | apply below_drew1) | exact HB.out)) hb); clear HB; have HO125 := n0_; have HB := n1_; clear n0_ n1_; (try clear hb); (try clear hb2); (try clear hk); (try clear hi); (try clear ho0); obtain ⟨Ao33, co33, eo33⟩ := Kd.R_slice HO125.out; subst eo33; have p126 : 0 ≤ (t122 : Int) := of_decide_eq_true (by first | (with_reducible assumption) | assumption); have q126 : t122 < (t123.length : Int) := of_decide_eq_true (by first | (with_reducible assumption) | assumption); obtain ⟨ad126, e126, hx126_0⟩ := Kd.at_int (Kd.R_reads' HO125.out).2.2 t122 p126 q126; cases e126; replace p126 := eq_true p126; replace q126 := eq_true q126; have p127 : 0 ≤ ((ji21) : Int) := of_decide_eq_true (by first | (with_reducible assumption) | assumption); have q127 : (ji21) < (t123.length : Int) := of_decide_eq_true (by first | (with_reducible assumption) | assumption); obtain ⟨ad127, e127, hx127_0⟩ := Kd.at_int (Kd.R_reads' HO125.out).2.2 (ji21) p127 q127; obtain rfl : ad126 = ad127 := (by injection e127); replace p127 := eq_true p127; replace q127 := eq_true q127) | (go_at_call 15; (with_reducible refine (size_Pages.calls kj3 (wrap64 (1 + (Int.tmod (wrap64 (a0)) 1024))) t128 _ A27.out).mono ?_); rintro e w34 ⟨rfl, hb⟩; have n0_ := Aside0.mk (Kd.R_below (by (with_reducible repeat (first | apply Kd.R_alloc | apply Kd.R_drewN | apply Kd.R_drew)); exact HO125.out) hb); have n1_ := Aside0.mk (below_step (by repeat (first | (with_reducible first | exact HB.out | apply below_alloc | apply pw_below_drewN | apply below_drew1) | exact HB.out)) hb); clear HO125; clear HB; have HO125 := n0_; have HB := n1_; clear n0_ n1_; (try clear hb); (try clear hb2); (try clear hk); (try clear hi)))
                              go_ret
                              exact ⟨by first | rfl | (simp [errW_none, errW_some] <;> rfl) | (simp only [← hji21]; first | rfl | (simp [errW_none, errW_some] <;> rfl)) | (simp [*, errW_none, errW_some] <;> rfl), by repeat (first | (with_reducible first | exact HB.out | apply below_alloc | apply pw_below_drewN | apply below_drew1) | exact HB.out)⟩
                        · rw [if_neg c23] at H
                          exact absurd H (by simp)
                      · rw [if_neg c22] at H
                        exact absurd H (by simp)
                    · rw [if_neg c20] at H
                      have c20b0 : decide (0 < t122) = false := decide_eq_false c20
                      clear c20
                      replace H := Option.bind_eq_some_iff.mp H
                      obtain ⟨t129, A350, H⟩ := H
                      replace H : (if t129 = 0 then (gloaminglaw4_SizeFits.j1 kj3 (wrap64 (1 + (Int.tmod (wrap64 (a0)) 1024)))) else (some false)) = some r := H
                      have A35 := Aside0.mk A350
                      clear A350
                      by_cases c36 : t129 = 0
                      · rw [if_pos c36] at H
                        have c36b0 : (t129 == 0) = true := beq_iff_eq.mpr c36
                        have c36b1 : (t129 != 0) = false := bne_eq_false_iff_eq.mpr c36
                        clear c36
                        have H' := Aside0.mk H
                        clear H
                        go_wp2_with (first | ((with_reducible refine gate_callee (f := 14) rfl ?_); refine goesL_ (some 36) rfl rfl Try.func14 (by kernel_rfl) rfl #[] rfl (by (try simp only [List.map_toArray, List.map_cons, List.map_nil]); first | done | rfl | (simp only [List.length_drop, List.length_take]; rfl)) ?_; (with_reducible refine (size_Sizes.calls  t123 _ A13.out).mono ?_); rintro e w37 ⟨v124, rfl, ho0, hb⟩; refine ⟨_, rfl, ?_⟩; have n0_ := Aside0.mk (Kd.R_lower ho0 (below_size (by repeat (first | (with_reducible first | exact HB.out | apply below_alloc | apply pw_below_drewN | apply below_drew1) | exact HB.out)))); have n1_ := Aside0.mk (below_step (by repeat (first | (with_reducible first | exact HB.out | apply below_alloc | apply pw_below_drewN | apply below_drew1) | exact HB.out)) hb); clear HB; have HO125 := n0_; have HB := n1_; clear n0_ n1_; (try clear hb); (try clear hb2); (try clear hk); (try clear hi); (try clear ho0); obtain ⟨Ao38, co38, eo38⟩ := Kd.R_slice HO125.out; subst eo38; have p126 : 0 ≤ (t122 : Int) := of_decide_eq_true (by first | (with_reducible assumption) | assumption); have q126 : t122 < (t123.length : Int) := of_decide_eq_true (by first | (with_reducible assumption) | assumption); obtain ⟨ad126, e126, hx126_0⟩ := Kd.at_int (Kd.R_reads' HO125.out).2.2 t122 p126 q126; cases e126; replace p126 := eq_true p126; replace q126 := eq_true q126) | (go_at_call 15; (with_reducible refine (size_Pages.calls kj3 (wrap64 (1 + (Int.tmod (wrap64 (a0)) 1024))) t129 _ A35.out).mono ?_); rintro e w39 ⟨rfl, hb⟩; have n0_ := Aside0.mk (Kd.R_below (by (with_reducible repeat (first | apply Kd.R_alloc | apply Kd.R_drewN | apply Kd.R_drew)); exact HO125.out) hb); have n1_ := Aside0.mk (below_step (by repeat (first | (with_reducible first | exact HB.out | apply below_alloc | apply pw_below_drewN | apply below_drew1) | exact HB.out)) hb); clear HO125; clear HB; have HO125 := n0_; have HB := n1_; clear n0_ n1_; (try clear hb); (try clear hb2); (try clear hk); (try clear hi)))
                        go_meet
                        case rel => exact ⟨_, H', ⟨by have := HJ3.out; first | omega | exact Nat.le_refl _⟩, ⟨by repeat (first | (with_reducible first | exact HB.out | apply below_alloc | apply pw_below_drewN | apply below_drew1) | exact HB.out)⟩⟩
                      · rw [if_neg c36] at H
                        have c36b0 : (t129 == 0) = false := beq_eq_false_iff_ne.mpr c36
                        have c36b1 : (t129 != 0) = true := bne_iff_ne.mpr c36
                        obtain rfl := Option.some.inj H
                        go_wp2_with (first | ((with_reducible refine gate_callee (f := 14) rfl ?_); refine goesL_ (some 36) rfl rfl Try.func14 (by kernel_rfl) rfl #[] rfl (by (try simp only [List.map_toArray, List.map_cons, List.map_nil]); first | done | rfl | (simp only [List.length_drop, List.length_take]; rfl)) ?_; (with_reducible refine (size_Sizes.calls  t123 _ A13.out).mono ?_); rintro e w40 ⟨v124, rfl, ho0, hb⟩; refine ⟨_, rfl, ?_⟩; have n0_ := Aside0.mk (Kd.R_lower ho0 (below_size (by repeat (first | (with_reducible first | exact HB.out | apply below_alloc | apply pw_below_drewN | apply below_drew1) | exact HB.out)))); have n1_ := Aside0.mk (below_step (by repeat (first | (with_reducible first | exact HB.out | apply below_alloc | apply pw_below_drewN | apply below_drew1) | exact HB.out)) hb); clear HB; have HO125 := n0_; have HB := n1_; clear n0_ n1_; (try clear hb); (try clear hb2); (try clear hk); (try clear hi); (try clear ho0); obtain ⟨Ao41, co41, eo41⟩ := Kd.R_slice HO125.out; subst eo41; have p126 : 0 ≤ (t122 : Int) := of_decide_eq_true (by first | (with_reducible assumption) | assumption); have q126 : t122 < (t123.length : Int) := of_decide_eq_true (by first | (with_reducible assumption) | assumption); obtain ⟨ad126, e126, hx126_0⟩ := Kd.at_int (Kd.R_reads' HO125.out).2.2 t122 p126 q126; cases e126; replace p126 := eq_true p126; replace q126 := eq_true q126) | (go_at_call 15; (with_reducible refine (size_Pages.calls kj3 (wrap64 (1 + (Int.tmod (wrap64 (a0)) 1024))) t129 _ A35.out).mono ?_); rintro e w42 ⟨rfl, hb⟩; have n0_ := Aside0.mk (Kd.R_below (by (with_reducible repeat (first | apply Kd.R_alloc | apply Kd.R_drewN | apply Kd.R_drew)); exact HO125.out) hb); have n1_ := Aside0.mk (below_step (by repeat (first | (with_reducible first | exact HB.out | apply below_alloc | apply pw_below_drewN | apply below_drew1) | exact HB.out)) hb); clear HO125; clear HB; have HO125 := n0_; have HB := n1_; clear n0_ n1_; (try clear hb); (try clear hb2); (try clear hk); (try clear hi)))
                        go_ret
                        exact ⟨by first | rfl | (simp [errW_none, errW_some] <;> rfl) | (simp [*, errW_none, errW_some] <;> rfl), by repeat (first | (with_reducible first | exact HB.out | apply below_alloc | apply pw_below_drewN | apply below_drew1) | exact HB.out)⟩
                  · rw [if_neg c19] at H
                    have c19b0 : ((rd t123 t122) == t121) = false := beq_eq_false_iff_ne.mpr c19
                    have c19b1 : ((rd t123 t122) != t121) = true := bne_iff_ne.mpr c19
                    obtain rfl := Option.some.inj H
                    go_wp2_with (first | ((with_reducible refine gate_callee (f := 14) rfl ?_); refine goesL_ (some 36) rfl rfl Try.func14 (by kernel_rfl) rfl #[] rfl (by (try simp only [List.map_toArray, List.map_cons, List.map_nil]); first | done | rfl | (simp only [List.length_drop, List.length_take]; rfl)) ?_; (with_reducible refine (size_Sizes.calls  t123 _ A13.out).mono ?_); rintro e w43 ⟨v124, rfl, ho0, hb⟩; refine ⟨_, rfl, ?_⟩; have n0_ := Aside0.mk (Kd.R_lower ho0 (below_size (by repeat (first | (with_reducible first | exact HB.out | apply below_alloc | apply pw_below_drewN | apply below_drew1) | exact HB.out)))); have n1_ := Aside0.mk (below_step (by repeat (first | (with_reducible first | exact HB.out | apply below_alloc | apply pw_below_drewN | apply below_drew1) | exact HB.out)) hb); clear HB; have HO125 := n0_; have HB := n1_; clear n0_ n1_; (try clear hb); (try clear hb2); (try clear hk); (try clear hi); (try clear ho0); obtain ⟨Ao44, co44, eo44⟩ := Kd.R_slice HO125.out; subst eo44; have p126 : 0 ≤ (t122 : Int) := of_decide_eq_true (by first | (with_reducible assumption) | assumption); have q126 : t122 < (t123.length : Int) := of_decide_eq_true (by first | (with_reducible assumption) | assumption); obtain ⟨ad126, e126, hx126_0⟩ := Kd.at_int (Kd.R_reads' HO125.out).2.2 t122 p126 q126; cases e126; replace p126 := eq_true p126; replace q126 := eq_true q126))
                    go_ret
                    exact ⟨by first | rfl | (simp [errW_none, errW_some] <;> rfl) | (simp [*, errW_none, errW_some] <;> rfl), by repeat (first | (with_reducible first | exact HB.out | apply below_alloc | apply pw_below_drewN | apply below_drew1) | exact HB.out)⟩
                · rw [if_neg c18] at H
                  exact absurd H (by simp)
              · rw [if_neg c17] at H
                exact absurd H (by simp)
          · rw [if_neg c12] at H
            have c12b0 : decide (0 ≤ t122) = false := decide_eq_false c12
            clear c12
            (first | rw [c12b0] | (simp only [i64_w, i32_w]; rw [c12b0]) | skip)
            by_cases c45 : (wrap64 (1 + (Int.tmod (wrap64 (a0)) 1024))) ≤ 32
            · rw [if_pos c45] at H
              have c45b0 : decide ((wrap64 (1 + (Int.tmod (wrap64 (a0)) 1024))) ≤ 32) = true := decide_eq_true c45
              clear c45
              obtain rfl := Option.some.inj H
              go_wp2
              go_ret
              exact ⟨by first | rfl | (simp [errW_none, errW_some] <;> rfl) | (simp [*, errW_none, errW_some] <;> rfl), by repeat (first | (with_reducible first | exact HB.out | apply below_alloc | apply pw_below_drewN | apply below_drew1) | exact HB.out)⟩
            · rw [if_neg c45] at H
              have c45b0 : decide ((wrap64 (1 + (Int.tmod (wrap64 (a0)) 1024))) ≤ 32) = false := decide_eq_false c45
              clear c45
              by_cases c46 : (Int.tmod t121 64) = 0
              · rw [if_pos c46] at H
                have c46b0 : ((Int.tmod t121 64) == 0) = true := beq_iff_eq.mpr c46
                have c46b1 : ((Int.tmod t121 64) != 0) = false := bne_eq_false_iff_eq.mpr c46
                clear c46
                by_cases c47 : (wrap64 (t121 - 64)) ≥ (wrap64 (1 + (Int.tmod (wrap64 (a0)) 1024)))
                · rw [if_pos c47] at H
                  have c47b0 : decide ((wrap64 (1 + (Int.tmod (wrap64 (a0)) 1024))) ≤ (wrap64 (t121 - 64))) = true := decide_eq_true c47
                  clear c47
                  obtain rfl := Option.some.inj H
                  go_wp2
                  go_ret
                  exact ⟨by first | rfl | (simp [errW_none, errW_some] <;> rfl) | (simp [*, errW_none, errW_some] <;> rfl), by repeat (first | (with_reducible first | exact HB.out | apply below_alloc | apply pw_below_drewN | apply below_drew1) | exact HB.out)⟩
                · rw [if_neg c47] at H
                  have c47b0 : decide ((wrap64 (1 + (Int.tmod (wrap64 (a0)) 1024))) ≤ (wrap64 (t121 - 64))) = false := decide_eq_false c47
                  clear c47
                  replace H := Option.bind_eq_some_iff.mp H
                  obtain ⟨t130, A480, H⟩ := H
                  replace H : (if t130 = (wrap64 (Int.tdiv t121 64)) then (gloaminglaw4_SizeFits.j1 kj3 (wrap64 (1 + (Int.tmod (wrap64 (a0)) 1024)))) else (some false)) = some r := H
                  have A48 := Aside0.mk A480
                  clear A480
                  by_cases c49 : t130 = (wrap64 (Int.tdiv t121 64))
                  · rw [if_pos c49] at H
                    have c49b0 : (t130 == (wrap64 (Int.tdiv t121 64))) = true := beq_iff_eq.mpr c49
                    have c49b1 : (t130 != (wrap64 (Int.tdiv t121 64))) = false := bne_eq_false_iff_eq.mpr c49
                    clear c49
                    have H' := Aside0.mk H
                    clear H
                    go_wp2_with (first | (go_at_call 15; (with_reducible refine (size_Pages.calls kj3 (wrap64 (1 + (Int.tmod (wrap64 (a0)) 1024))) t130 _ A48.out).mono ?_); rintro e w50 ⟨rfl, hb⟩; have n0_ := Aside0.mk (below_step (by repeat (first | (with_reducible first | exact HB.out | apply below_alloc | apply pw_below_drewN | apply below_drew1) | exact HB.out)) hb); clear HB; have HB := n0_; clear n0_; (try clear hb); (try clear hb2); (try clear hk); (try clear hi)))
                    go_meet
                    case rel => exact ⟨_, H', ⟨by have := HJ3.out; first | omega | exact Nat.le_refl _⟩, ⟨by repeat (first | (with_reducible first | exact HB.out | apply below_alloc | apply pw_below_drewN | apply below_drew1) | exact HB.out)⟩⟩
                  · rw [if_neg c49] at H
                    have c49b0 : (t130 == (wrap64 (Int.tdiv t121 64))) = false := beq_eq_false_iff_ne.mpr c49
                    have c49b1 : (t130 != (wrap64 (Int.tdiv t121 64))) = true := bne_iff_ne.mpr c49
                    obtain rfl := Option.some.inj H
                    go_wp2_with (first | (go_at_call 15; (with_reducible refine (size_Pages.calls kj3 (wrap64 (1 + (Int.tmod (wrap64 (a0)) 1024))) t130 _ A48.out).mono ?_); rintro e w51 ⟨rfl, hb⟩; have n0_ := Aside0.mk (below_step (by repeat (first | (with_reducible first | exact HB.out | apply below_alloc | apply pw_below_drewN | apply below_drew1) | exact HB.out)) hb); clear HB; have HB := n0_; clear n0_; (try clear hb); (try clear hb2); (try clear hk); (try clear hi)))
                    go_ret
                    exact ⟨by first | rfl | (simp [errW_none, errW_some] <;> rfl) | (simp [*, errW_none, errW_some] <;> rfl), by repeat (first | (with_reducible first | exact HB.out | apply below_alloc | apply pw_below_drewN | apply below_drew1) | exact HB.out)⟩
              · rw [if_neg c46] at H
                have c46b0 : ((Int.tmod t121 64) == 0) = false := beq_eq_false_iff_ne.mpr c46
                have c46b1 : ((Int.tmod t121 64) != 0) = true := bne_iff_ne.mpr c46
                obtain rfl := Option.some.inj H
                go_wp2
                go_ret
                exact ⟨by first | rfl | (simp [errW_none, errW_some] <;> rfl) | (simp [*, errW_none, errW_some] <;> rfl), by repeat (first | (with_reducible first | exact HB.out | apply below_alloc | apply pw_below_drewN | apply below_drew1) | exact HB.out)⟩
        case rest =>
          clear HC11
          try clear c1
          try clear p1
          try clear q1
          try clear hx1
          try clear c2
          try clear p2
          try clear c3
          try clear c4
          try clear p6
          try clear c7
          try clear c7b0
          try clear c8
          try clear c8b0
          try clear c9
          try clear c9b0
          try clear c10
          try clear c12
          try clear c12b0
          try clear p12
          try clear q12
          try clear hx12
          try clear c13
          try clear c14
          try clear c14b0
          try clear c17
          try clear c17b0
          try clear c18
          try clear c18b0
          try clear c19
          try clear c19b0
          try clear c19b1
          try clear c20
          try clear c20b0
          try clear c22
          try clear c22b0
          try clear c23
          try clear c23b0
          try clear c24
          try clear c24b0
          try clear c28
          try clear c28b0
          try clear c28b1
          try clear c36
          try clear c36b0
          try clear c36b1
          try clear c45
          try clear c45b0
          try clear c46
          try clear c46b0
          try clear c46b1
          try clear c47
          try clear c47b0
          try clear c49
          try clear c49b0
          try clear c49b1
          try clear hx126_0
          try clear hx127_0
          try clear p126
          try clear p127
          try clear p2
          try clear p6
          try clear q126
          try clear q127
          obtain ⟨kq, HA, HJ10, HB⟩ := hcut
          cases kq with
          | zero => exact absurd HA.out (by simp [gloaminglaw4_SizeFits.j1])
          | succ kj10 =>
            have H := HA.out
            clear HA
            simp only [gloaminglaw4_SizeFits.j1] at H
            replace H := Option.bind_eq_some_iff.mp H
            obtain ⟨t131, A520, H⟩ := H
            replace H : ((size_Block.f kj10 (wrap64 ((wrap64 (1 + (Int.tmod (wrap64 (a0)) 1024))) - 1))).bind fun t132 => (if t131 ≥ t132 then ((size_Block.f kj10 0).bind fun t133 => (if t133 = 0 then ((size_Block.f kj10 1025).bind fun t134 => (if t134 = 0 then ((size_Class.f kj10 33).bind fun t135 => (if t135 = (-1) then ((gloaminglaw4_awake.f kj10).bind fun t136 => (some t136)) else (some false))) else (some false))) else (some false))) else (some false))) = some r := H
            have A52 := Aside0.mk A520
            clear A520
            replace H := Option.bind_eq_some_iff.mp H
            obtain ⟨t132, A530, H⟩ := H
            replace H : (if t131 ≥ t132 then ((size_Block.f kj10 0).bind fun t133 => (if t133 = 0 then ((size_Block.f kj10 1025).bind fun t134 => (if t134 = 0 then ((size_Class.f kj10 33).bind fun t135 => (if t135 = (-1) then ((gloaminglaw4_awake.f kj10).bind fun t136 => (some t136)) else (some false))) else (some false))) else (some false))) else (some false)) = some r := H
            have A53 := Aside0.mk A530
            clear A530
            by_cases c54 : t131 ≥ t132
            · rw [if_pos c54] at H
              have c54b0 : decide (t132 ≤ t131) = true := decide_eq_true c54
              clear c54
              replace H := Option.bind_eq_some_iff.mp H
              obtain ⟨t133, A550, H⟩ := H
              replace H : (if t133 = 0 then ((size_Block.f kj10 1025).bind fun t134 => (if t134 = 0 then ((size_Class.f kj10 33).bind fun t135 => (if t135 = (-1) then ((gloaminglaw4_awake.f kj10).bind fun t136 => (some t136)) else (some false))) else (some false))) else (some false)) = some r := H
              have A55 := Aside0.mk A550
              clear A550
              by_cases c56 : t133 = 0
              · rw [if_pos c56] at H
                have c56b0 : (t133 == 0) = true := beq_iff_eq.mpr c56
                have c56b1 : (t133 != 0) = false := bne_eq_false_iff_eq.mpr c56
                clear c56
                replace H := Option.bind_eq_some_iff.mp H
                obtain ⟨t134, A570, H⟩ := H
                replace H : (if t134 = 0 then ((size_Class.f kj10 33).bind fun t135 => (if t135 = (-1) then ((gloaminglaw4_awake.f kj10).bind fun t136 => (some t136)) else (some false))) else (some false)) = some r := H
                have A57 := Aside0.mk A570
                clear A570
                by_cases c58 : t134 = 0
                · rw [if_pos c58] at H
                  have c58b0 : (t134 == 0) = true := beq_iff_eq.mpr c58
                  have c58b1 : (t134 != 0) = false := bne_eq_false_iff_eq.mpr c58
                  clear c58
                  replace H := Option.bind_eq_some_iff.mp H
                  obtain ⟨t135, A590, H⟩ := H
                  replace H : (if t135 = (-1) then ((gloaminglaw4_awake.f kj10).bind fun t136 => (some t136)) else (some false)) = some r := H
                  have A59 := Aside0.mk A590
                  clear A590
                  by_cases c60 : t135 = (-1)
                  · rw [if_pos c60] at H
                    have c60b0 : (t135 == (-1)) = true := beq_iff_eq.mpr c60
                    have c60b1 : (t135 != (-1)) = false := bne_eq_false_iff_eq.mpr c60
                    clear c60
                    replace H := Option.bind_eq_some_iff.mp H
                    obtain ⟨t136, A610, H⟩ := H
                    replace H : (some t136) = some r := H
                    have A61 := Aside0.mk A610
                    clear A610
                    obtain rfl := Option.some.inj H
                    go_wp2_with (first | ((with_reducible refine gate_callee (f := 12) rfl ?_); refine goesL_ (some 88) rfl rfl Try.func12 (by kernel_rfl) rfl #[.int .i64 (wrap64 (1 + (Int.tmod (wrap64 (a0)) 1024)))] rfl (by (try simp only [List.map_toArray, List.map_cons, List.map_nil]); first | done | rfl | (simp only [List.length_drop, List.length_take]; rfl)) ?_; (with_reducible refine (size_Block.calls kj10 (wrap64 (1 + (Int.tmod (wrap64 (a0)) 1024))) t131 _ A52.out).mono ?_); rintro e w62 ⟨rfl, hb⟩; refine ⟨_, rfl, ?_⟩; have n0_ := Aside0.mk (below_step (by repeat (first | (with_reducible first | exact HB.out | apply below_alloc | apply pw_below_drewN | apply below_drew1) | exact HB.out)) hb); clear HB; have HB := n0_; clear n0_; (try clear hb); (try clear hb2); (try clear hk); (try clear hi)) | ((with_reducible refine gate_callee (f := 12) rfl ?_); refine goesL_ (some 91) rfl rfl Try.func12 (by kernel_rfl) rfl #[.int .i64 (wrap64 ((wrap64 (1 + (Int.tmod (wrap64 (a0)) 1024))) - 1))] rfl (by (try simp only [List.map_toArray, List.map_cons, List.map_nil]); first | done | rfl | (simp only [List.length_drop, List.length_take]; rfl)) ?_; (with_reducible refine (size_Block.calls kj10 (wrap64 ((wrap64 (1 + (Int.tmod (wrap64 (a0)) 1024))) - 1)) t132 _ A53.out).mono ?_); rintro e w63 ⟨rfl, hb⟩; refine ⟨_, rfl, ?_⟩; have n0_ := Aside0.mk (below_step (by repeat (first | (with_reducible first | exact HB.out | apply below_alloc | apply pw_below_drewN | apply below_drew1) | exact HB.out)) hb); clear HB; have HB := n0_; clear n0_; (try clear hb); (try clear hb2); (try clear hk); (try clear hi)) | (go_at_call 12; (with_reducible refine (size_Block.calls kj10 0 t133 _ A55.out).mono ?_); rintro e w64 ⟨rfl, hb⟩; have n0_ := Aside0.mk (below_step (by repeat (first | (with_reducible first | exact HB.out | apply below_alloc | apply pw_below_drewN | apply below_drew1) | exact HB.out)) hb); clear HB; have HB := n0_; clear n0_; (try clear hb); (try clear hb2); (try clear hk); (try clear hi)) | (go_at_call 12; (with_reducible refine (size_Block.calls kj10 1025 t134 _ A57.out).mono ?_); rintro e w65 ⟨rfl, hb⟩; have n0_ := Aside0.mk (below_step (by repeat (first | (with_reducible first | exact HB.out | apply below_alloc | apply pw_below_drewN | apply below_drew1) | exact HB.out)) hb); clear HB; have HB := n0_; clear n0_; (try clear hb); (try clear hb2); (try clear hk); (try clear hi)) | (go_at_call 13; (with_reducible refine (size_Class.calls kj10 33 t135 _ A59.out).mono ?_); rintro e w66 ⟨rfl, hb⟩; have n0_ := Aside0.mk (below_step (by repeat (first | (with_reducible first | exact HB.out | apply below_alloc | apply pw_below_drewN | apply below_drew1) | exact HB.out)) hb); clear HB; have HB := n0_; clear n0_; (try clear hb); (try clear hb2); (try clear hk); (try clear hi)) | (go_at_call 16; (with_reducible refine (gloaminglaw4_awake.calls kj10  t136 _ A61.out).mono ?_); rintro e w67 ⟨rfl, hb⟩; have n0_ := Aside0.mk (below_step (by repeat (first | (with_reducible first | exact HB.out | apply below_alloc | apply pw_below_drewN | apply below_drew1) | exact HB.out)) hb); clear HB; have HB := n0_; clear n0_; (try clear hb); (try clear hb2); (try clear hk); (try clear hi)))
                    go_ret
                    exact ⟨by first | rfl | (simp [errW_none, errW_some] <;> rfl) | (simp [*, errW_none, errW_some] <;> rfl), by repeat (first | (with_reducible first | exact HB.out | apply below_alloc | apply pw_below_drewN | apply below_drew1) | exact HB.out)⟩
                  · rw [if_neg c60] at H
                    have c60b0 : (t135 == (-1)) = false := beq_eq_false_iff_ne.mpr c60
                    have c60b1 : (t135 != (-1)) = true := bne_iff_ne.mpr c60
                    obtain rfl := Option.some.inj H
                    go_wp2_with (first | ((with_reducible refine gate_callee (f := 12) rfl ?_); refine goesL_ (some 88) rfl rfl Try.func12 (by kernel_rfl) rfl #[.int .i64 (wrap64 (1 + (Int.tmod (wrap64 (a0)) 1024)))] rfl (by (try simp only [List.map_toArray, List.map_cons, List.map_nil]); first | done | rfl | (simp only [List.length_drop, List.length_take]; rfl)) ?_; (with_reducible refine (size_Block.calls kj10 (wrap64 (1 + (Int.tmod (wrap64 (a0)) 1024))) t131 _ A52.out).mono ?_); rintro e w68 ⟨rfl, hb⟩; refine ⟨_, rfl, ?_⟩; have n0_ := Aside0.mk (below_step (by repeat (first | (with_reducible first | exact HB.out | apply below_alloc | apply pw_below_drewN | apply below_drew1) | exact HB.out)) hb); clear HB; have HB := n0_; clear n0_; (try clear hb); (try clear hb2); (try clear hk); (try clear hi)) | ((with_reducible refine gate_callee (f := 12) rfl ?_); refine goesL_ (some 91) rfl rfl Try.func12 (by kernel_rfl) rfl #[.int .i64 (wrap64 ((wrap64 (1 + (Int.tmod (wrap64 (a0)) 1024))) - 1))] rfl (by (try simp only [List.map_toArray, List.map_cons, List.map_nil]); first | done | rfl | (simp only [List.length_drop, List.length_take]; rfl)) ?_; (with_reducible refine (size_Block.calls kj10 (wrap64 ((wrap64 (1 + (Int.tmod (wrap64 (a0)) 1024))) - 1)) t132 _ A53.out).mono ?_); rintro e w69 ⟨rfl, hb⟩; refine ⟨_, rfl, ?_⟩; have n0_ := Aside0.mk (below_step (by repeat (first | (with_reducible first | exact HB.out | apply below_alloc | apply pw_below_drewN | apply below_drew1) | exact HB.out)) hb); clear HB; have HB := n0_; clear n0_; (try clear hb); (try clear hb2); (try clear hk); (try clear hi)) | (go_at_call 12; (with_reducible refine (size_Block.calls kj10 0 t133 _ A55.out).mono ?_); rintro e w70 ⟨rfl, hb⟩; have n0_ := Aside0.mk (below_step (by repeat (first | (with_reducible first | exact HB.out | apply below_alloc | apply pw_below_drewN | apply below_drew1) | exact HB.out)) hb); clear HB; have HB := n0_; clear n0_; (try clear hb); (try clear hb2); (try clear hk); (try clear hi)) | (go_at_call 12; (with_reducible refine (size_Block.calls kj10 1025 t134 _ A57.out).mono ?_); rintro e w71 ⟨rfl, hb⟩; have n0_ := Aside0.mk (below_step (by repeat (first | (with_reducible first | exact HB.out | apply below_alloc | apply pw_below_drewN | apply below_drew1) | exact HB.out)) hb); clear HB; have HB := n0_; clear n0_; (try clear hb); (try clear hb2); (try clear hk); (try clear hi)) | (go_at_call 13; (with_reducible refine (size_Class.calls kj10 33 t135 _ A59.out).mono ?_); rintro e w72 ⟨rfl, hb⟩; have n0_ := Aside0.mk (below_step (by repeat (first | (with_reducible first | exact HB.out | apply below_alloc | apply pw_below_drewN | apply below_drew1) | exact HB.out)) hb); clear HB; have HB := n0_; clear n0_; (try clear hb); (try clear hb2); (try clear hk); (try clear hi)))
                    go_ret
                    exact ⟨by first | rfl | (simp [errW_none, errW_some] <;> rfl) | (simp [*, errW_none, errW_some] <;> rfl), by repeat (first | (with_reducible first | exact HB.out | apply below_alloc | apply pw_below_drewN | apply below_drew1) | exact HB.out)⟩
                · rw [if_neg c58] at H
                  have c58b0 : (t134 == 0) = false := beq_eq_false_iff_ne.mpr c58
                  have c58b1 : (t134 != 0) = true := bne_iff_ne.mpr c58
                  obtain rfl := Option.some.inj H
                  go_wp2_with (first | ((with_reducible refine gate_callee (f := 12) rfl ?_); refine goesL_ (some 88) rfl rfl Try.func12 (by kernel_rfl) rfl #[.int .i64 (wrap64 (1 + (Int.tmod (wrap64 (a0)) 1024)))] rfl (by (try simp only [List.map_toArray, List.map_cons, List.map_nil]); first | done | rfl | (simp only [List.length_drop, List.length_take]; rfl)) ?_; (with_reducible refine (size_Block.calls kj10 (wrap64 (1 + (Int.tmod (wrap64 (a0)) 1024))) t131 _ A52.out).mono ?_); rintro e w73 ⟨rfl, hb⟩; refine ⟨_, rfl, ?_⟩; have n0_ := Aside0.mk (below_step (by repeat (first | (with_reducible first | exact HB.out | apply below_alloc | apply pw_below_drewN | apply below_drew1) | exact HB.out)) hb); clear HB; have HB := n0_; clear n0_; (try clear hb); (try clear hb2); (try clear hk); (try clear hi)) | ((with_reducible refine gate_callee (f := 12) rfl ?_); refine goesL_ (some 91) rfl rfl Try.func12 (by kernel_rfl) rfl #[.int .i64 (wrap64 ((wrap64 (1 + (Int.tmod (wrap64 (a0)) 1024))) - 1))] rfl (by (try simp only [List.map_toArray, List.map_cons, List.map_nil]); first | done | rfl | (simp only [List.length_drop, List.length_take]; rfl)) ?_; (with_reducible refine (size_Block.calls kj10 (wrap64 ((wrap64 (1 + (Int.tmod (wrap64 (a0)) 1024))) - 1)) t132 _ A53.out).mono ?_); rintro e w74 ⟨rfl, hb⟩; refine ⟨_, rfl, ?_⟩; have n0_ := Aside0.mk (below_step (by repeat (first | (with_reducible first | exact HB.out | apply below_alloc | apply pw_below_drewN | apply below_drew1) | exact HB.out)) hb); clear HB; have HB := n0_; clear n0_; (try clear hb); (try clear hb2); (try clear hk); (try clear hi)) | (go_at_call 12; (with_reducible refine (size_Block.calls kj10 0 t133 _ A55.out).mono ?_); rintro e w75 ⟨rfl, hb⟩; have n0_ := Aside0.mk (below_step (by repeat (first | (with_reducible first | exact HB.out | apply below_alloc | apply pw_below_drewN | apply below_drew1) | exact HB.out)) hb); clear HB; have HB := n0_; clear n0_; (try clear hb); (try clear hb2); (try clear hk); (try clear hi)) | (go_at_call 12; (with_reducible refine (size_Block.calls kj10 1025 t134 _ A57.out).mono ?_); rintro e w76 ⟨rfl, hb⟩; have n0_ := Aside0.mk (below_step (by repeat (first | (with_reducible first | exact HB.out | apply below_alloc | apply pw_below_drewN | apply below_drew1) | exact HB.out)) hb); clear HB; have HB := n0_; clear n0_; (try clear hb); (try clear hb2); (try clear hk); (try clear hi)))
                  go_ret
                  exact ⟨by first | rfl | (simp [errW_none, errW_some] <;> rfl) | (simp [*, errW_none, errW_some] <;> rfl), by repeat (first | (with_reducible first | exact HB.out | apply below_alloc | apply pw_below_drewN | apply below_drew1) | exact HB.out)⟩
              · rw [if_neg c56] at H
                have c56b0 : (t133 == 0) = false := beq_eq_false_iff_ne.mpr c56
                have c56b1 : (t133 != 0) = true := bne_iff_ne.mpr c56
                obtain rfl := Option.some.inj H
                go_wp2_with (first | ((with_reducible refine gate_callee (f := 12) rfl ?_); refine goesL_ (some 88) rfl rfl Try.func12 (by kernel_rfl) rfl #[.int .i64 (wrap64 (1 + (Int.tmod (wrap64 (a0)) 1024)))] rfl (by (try simp only [List.map_toArray, List.map_cons, List.map_nil]); first | done | rfl | (simp only [List.length_drop, List.length_take]; rfl)) ?_; (with_reducible refine (size_Block.calls kj10 (wrap64 (1 + (Int.tmod (wrap64 (a0)) 1024))) t131 _ A52.out).mono ?_); rintro e w77 ⟨rfl, hb⟩; refine ⟨_, rfl, ?_⟩; have n0_ := Aside0.mk (below_step (by repeat (first | (with_reducible first | exact HB.out | apply below_alloc | apply pw_below_drewN | apply below_drew1) | exact HB.out)) hb); clear HB; have HB := n0_; clear n0_; (try clear hb); (try clear hb2); (try clear hk); (try clear hi)) | ((with_reducible refine gate_callee (f := 12) rfl ?_); refine goesL_ (some 91) rfl rfl Try.func12 (by kernel_rfl) rfl #[.int .i64 (wrap64 ((wrap64 (1 + (Int.tmod (wrap64 (a0)) 1024))) - 1))] rfl (by (try simp only [List.map_toArray, List.map_cons, List.map_nil]); first | done | rfl | (simp only [List.length_drop, List.length_take]; rfl)) ?_; (with_reducible refine (size_Block.calls kj10 (wrap64 ((wrap64 (1 + (Int.tmod (wrap64 (a0)) 1024))) - 1)) t132 _ A53.out).mono ?_); rintro e w78 ⟨rfl, hb⟩; refine ⟨_, rfl, ?_⟩; have n0_ := Aside0.mk (below_step (by repeat (first | (with_reducible first | exact HB.out | apply below_alloc | apply pw_below_drewN | apply below_drew1) | exact HB.out)) hb); clear HB; have HB := n0_; clear n0_; (try clear hb); (try clear hb2); (try clear hk); (try clear hi)) | (go_at_call 12; (with_reducible refine (size_Block.calls kj10 0 t133 _ A55.out).mono ?_); rintro e w79 ⟨rfl, hb⟩; have n0_ := Aside0.mk (below_step (by repeat (first | (with_reducible first | exact HB.out | apply below_alloc | apply pw_below_drewN | apply below_drew1) | exact HB.out)) hb); clear HB; have HB := n0_; clear n0_; (try clear hb); (try clear hb2); (try clear hk); (try clear hi)))
                go_ret
                exact ⟨by first | rfl | (simp [errW_none, errW_some] <;> rfl) | (simp [*, errW_none, errW_some] <;> rfl), by repeat (first | (with_reducible first | exact HB.out | apply below_alloc | apply pw_below_drewN | apply below_drew1) | exact HB.out)⟩
            · rw [if_neg c54] at H
              have c54b0 : decide (t132 ≤ t131) = false := decide_eq_false c54
              clear c54
              obtain rfl := Option.some.inj H
              go_wp2_with (first | ((with_reducible refine gate_callee (f := 12) rfl ?_); refine goesL_ (some 88) rfl rfl Try.func12 (by kernel_rfl) rfl #[.int .i64 (wrap64 (1 + (Int.tmod (wrap64 (a0)) 1024)))] rfl (by (try simp only [List.map_toArray, List.map_cons, List.map_nil]); first | done | rfl | (simp only [List.length_drop, List.length_take]; rfl)) ?_; (with_reducible refine (size_Block.calls kj10 (wrap64 (1 + (Int.tmod (wrap64 (a0)) 1024))) t131 _ A52.out).mono ?_); rintro e w80 ⟨rfl, hb⟩; refine ⟨_, rfl, ?_⟩; have n0_ := Aside0.mk (below_step (by repeat (first | (with_reducible first | exact HB.out | apply below_alloc | apply pw_below_drewN | apply below_drew1) | exact HB.out)) hb); clear HB; have HB := n0_; clear n0_; (try clear hb); (try clear hb2); (try clear hk); (try clear hi)) | ((with_reducible refine gate_callee (f := 12) rfl ?_); refine goesL_ (some 91) rfl rfl Try.func12 (by kernel_rfl) rfl #[.int .i64 (wrap64 ((wrap64 (1 + (Int.tmod (wrap64 (a0)) 1024))) - 1))] rfl (by (try simp only [List.map_toArray, List.map_cons, List.map_nil]); first | done | rfl | (simp only [List.length_drop, List.length_take]; rfl)) ?_; (with_reducible refine (size_Block.calls kj10 (wrap64 ((wrap64 (1 + (Int.tmod (wrap64 (a0)) 1024))) - 1)) t132 _ A53.out).mono ?_); rintro e w81 ⟨rfl, hb⟩; refine ⟨_, rfl, ?_⟩; have n0_ := Aside0.mk (below_step (by repeat (first | (with_reducible first | exact HB.out | apply below_alloc | apply pw_below_drewN | apply below_drew1) | exact HB.out)) hb); clear HB; have HB := n0_; clear n0_; (try clear hb); (try clear hb2); (try clear hk); (try clear hi)))
              go_ret
              exact ⟨by first | rfl | (simp [errW_none, errW_some] <;> rfl) | (simp [*, errW_none, errW_some] <;> rfl), by repeat (first | (with_reducible first | exact HB.out | apply below_alloc | apply pw_below_drewN | apply below_drew1) | exact HB.out)⟩

/-- THE ONE PURE STATEMENT of gloaminglaw4_SizeFits: yours. -/
def gloaminglaw4_SizeFits.Pure : Prop := ∀ (a0 : Int), (Lit.int .u16 a0).wf = true → ∃ k, gloaminglaw4_SizeFits.f k a0 = some true
theorem gloaminglaw4_SizeFits.walk (P : gloaminglaw4_SizeFits.Pure) (a0 : Int) (w : World) (w0 : (Lit.int .u16 a0).wf = true) :
    Calls Try.prog 3 #[.int .u16 a0] w fun e w' => e = .returned (.bool true) ∧ Below w.heap.size w w' := by
  obtain ⟨k, h⟩ := P a0 w0
  refine (gloaminglaw4_SizeFits.calls k a0 true w h).mono ?_
  rintro e w' ⟨rfl, hd⟩
  exact ⟨rfl, hd⟩

end Go.Proofs.Ytgjcidhjonhamaa.PSizeFits
