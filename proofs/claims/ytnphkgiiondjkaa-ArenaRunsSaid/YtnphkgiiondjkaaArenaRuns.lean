/- The walk of ArenaRuns: at every number of pages and every list of asks the law returns true, and nothing that was there has turned. -/
import Derived.Test.YtnphkgiiondjkaaArenaFills
import Derived.Deep.QuietTactic
import Derived.BigQuiet
import Derived.Outline
namespace Go.Proofs.Ytnphkgiiondjkaa
open Go Go.RowKit

/-- The cells of a slice of structs of three numbers that came in. -/
def Rows3 (w : World) (b off len : Nat) (F : Nat → Nat → Int) : Prop :=
  b < w.heap.size ∧ ∀ k, k < len → ∀ j, j < 3 → w.cell? ⟨b, off + (k * 3 + j), none⟩ = some (.int .i64 (F k j)) ∧ -9223372036854775808 ≤ F k j ∧ F k j ≤ 9223372036854775807

set_option maxRecDepth 100000 in
set_option maxHeartbeats 8000000 in
theorem runs_no (n : Int) (A : Option Addr) (len cap : Nat) (w : World) (h : n < 1 ∨ 256 < n) : Calls Try.prog 4 #[.int .i64 n, .slice A len cap] w fun e w' => e = .returned (.bool true) ∧ Below w.heap.size w w' := by
  rcases h with h | h
  · go_enter Try.func4, Try.ntmps4
    go_wp2_with fail
    refine (arena_new_no n _ (.inl h)).mono ?_
    rintro e w' ⟨rfl, rfl⟩
    go_wp2_with fail
    refine (err1 _).mono ?_
    rintro e w' ⟨rfl, rfl⟩
    go_wp2_with fail
    refine (awake1_calls _).mono ?_
    rintro e w5 ⟨rfl, hb⟩
    go_wp2_with fail
    go_ret
    exact ⟨rfl, hb⟩
  · have h' : ¬ n < 1 := by omega
    go_enter Try.func4, Try.ntmps4
    go_wp2_with fail
    refine (arena_new_no n _ (.inr h)).mono ?_
    rintro e w' ⟨rfl, rfl⟩
    go_wp2_with fail
    refine (err1 _).mono ?_
    rintro e w' ⟨rfl, rfl⟩
    go_wp2_with fail
    refine (awake1_calls _).mono ?_
    rintro e w5 ⟨rfl, hb⟩
    go_wp2_with fail
    go_ret
    exact ⟨rfl, hb⟩

set_option maxRecDepth 100000 in
set_option maxHeartbeats 8000000 in
theorem runs_long (n : Nat) (A : Option Addr) (len cap : Nat) (w : World) (h1 : 1 ≤ n) (h2 : n ≤ 256) (hl : 60 < len) : Calls Try.prog 4 #[.int .i64 n, .slice A len cap] w fun e w' => e = .returned (.bool true) ∧ Below w.heap.size w w' := by
  have hn : (0 : Int) ≤ n := by omega
  go_enter Try.func4, Try.ntmps4
  go_wp2_with fail
  refine (arena_new_yes n _ h1 h2).mono ?_
  rintro e w1 ⟨p, g, rfl, ha, hp, hg, hb⟩
  have HU := Lib.hid (Upd.of_below hb : Upd [] w w1)
  clear ha hb
  go_wp2_with fail
  refine (err0 _).mono ?_
  rintro e w' ⟨rfl, rfl⟩
  go_wp2_with fail
  refine (err0 _).mono ?_
  rintro e w' ⟨rfl, rfl⟩
  go_wp2_with fail
  refine (awake1_calls _).mono ?_
  rintro e w5 ⟨rfl, hb⟩
  have HF := Lib.hid (HU.out.step (Upd.of_below hb : Upd [] _ _) (by simp))
  clear hb
  go_wp2_with fail
  go_ret
  exact ⟨rfl, HF.out.below⟩

theorem IsArena.far {w : World} {p g : Nat} {l : List Int} (h : IsArena w p g l) {q : Addr} (hp : p ≠ q.block) (hg : g ≠ q.block) (u : Value) : IsArena (w.setCell q u) p g l := ⟨h.1.far hp u, h.2.far hg u⟩

theorem filledAt_zero (l : List Int) (i : Nat) : filledAt l i 0 = l := by unfold filledAt; simp
theorem filledAt_set (l : List Int) (i j : Nat) (h : i + j < l.length) : (filledAt l i j).set (i + j) 0 = filledAt l i (j + 1) := by
  apply List.ext_getElem?
  intro q
  have h1 := filledAt_get l i j q (by omega)
  have h2 := filledAt_get l i (j + 1) q (by omega)
  have e1 := filledAt_length l i j (by omega)
  have e2 := filledAt_length l i (j + 1) (by omega)
  by_cases hq : q < l.length
  · rw [List.getElem?_set, List.getElem?_eq_getElem (by omega : q < (filledAt l i (j + 1)).length)]
    rw [List.getD_eq_getElem?_getD, List.getElem?_eq_getElem (by omega)] at h1 h2
    simp only [Option.getD_some] at h1 h2
    by_cases hij : i + j = q
    · rw [if_pos hij, if_pos (by omega), h2, if_pos (by omega)]
    · rw [if_neg hij, List.getElem?_eq_getElem (by omega), h1, h2]
      by_cases c : i ≤ q ∧ q < i + j
      · rw [if_pos c, if_pos (by omega)]
      · rw [if_neg c, if_neg (by omega)]
  · rw [List.getElem?_eq_none (by simp; omega), List.getElem?_eq_none (by omega)]




set_option maxRecDepth 100000 in
set_option maxHeartbeats 16000000 in
theorem runs_yes (n : Nat) (b off len cap : Nat) (F : Nat → Nat → Int) (w : World) (h1 : 1 ≤ n) (h2 : n ≤ 256) (hl : len ≤ 60) (hF : Rows3 w b off len F) : Calls Try.prog 4 #[.int .i64 n, .slice (some ⟨b, off, none⟩) len cap] w fun e w' => e = .returned (.bool true) ∧ Below w.heap.size w w' := by
  have HFF := Lib.hid hF
  clear hF
  have hn : (0 : Int) ≤ n := by omega
  have hmk := fun W => run_make_all (P := Try.prog) 34 3 (.int .i64 0) 8 Try.underlying34 int_info rfl ((n : Int) * 64) (n * 64) (by omega) (by omega) (by omega) W
  go_enter Try.func4, Try.ntmps4
  go_wp2_with fail
  refine (arena_new_yes n _ h1 h2).mono ?_
  rintro e w1 ⟨p, g, rfl, ha, hp, hg, hb⟩
  have HU := Lib.hid (Upd.of_below hb : Upd [] w w1)
  have H := Lib.hid ha
  clear ha hb
  go_wp2_with fail
  refine (err0 _).mono ?_
  rintro e w' ⟨rfl, rfl⟩
  go_wp2_with fail
  have hgw : w.heap.size ≤ w1.heap.size ∧ w1.heap.size ≠ p ∧ w1.heap.size ≠ g := by
    have := HU.out.size
    have := H.out.1.lt
    have := H.out.2.lt
    omega
  have HG := Lib.hid hgw
  have H2 := Lib.hid (IsArena.upd H.out ((Upd.refl [] w1).alloc (.cells (Array.replicate (n * 64) (.int .i64 0)) 3)) (by simp) (by simp))
  have HW2 := Lib.hid (Blk.new w1 3 (Array.replicate (n * 64) (.int .i64 0)))
  have HU2 := Lib.hid (HU.out.alloc (.cells (Array.replicate (n * 64) (.int .i64 0)) 3))
  clear hgw hmk HU H
  generalize w1.alloc (.cells (Array.replicate (n * 64) (.int .i64 0)) 3) = w2 at *
  generalize w1.heap.size = gw at *
  go_loopw [9] (fun i wr => ∃ k : Nat, k ≤ len ∧ i = .int .i64 k ∧ ∃ L : List Int, Hid (IsArena wr p g L) ∧ Hid (Blk wr gw 3 (ints L)) ∧ Hid (L.length = n * 64) ∧ Hid (Upd [] w wr)) (fun i _ => len - (intOf i).toNat)
  case atStart => exact ⟨0, Nat.zero_le _, rfl, List.replicate (n * 64) 0, H2, Lib.hid (by rw [ints_zero]; exact HW2.out), Lib.hid List.length_replicate, HU2⟩
  case round =>
    obtain ⟨k, hk, rfl, L, HA, HW, HL, HU⟩ := hrel
    by_cases hlt : k < len
    · have c0 : wr.cell? ⟨b, off + k * 3, none⟩ = some (.int .i64 (F k 0)) := (HU.out.cell (p := ⟨b, off + k * 3, none⟩) HFF.out.1 (by simp)).trans (HFF.out.2 k hlt 0 (by omega)).1
      have c1 : wr.cell? ⟨b, off + k * 3 + 1, none⟩ = some (.int .i64 (F k 1)) := (HU.out.cell (p := ⟨b, off + k * 3 + 1, none⟩) HFF.out.1 (by simp)).trans (HFF.out.2 k hlt 1 (by omega)).1
      have c2 : wr.cell? ⟨b, off + k * 3 + 2, none⟩ = some (.int .i64 (F k 2)) := (HU.out.cell (p := ⟨b, off + k * 3 + 2, none⟩) HFF.out.1 (by simp)).trans (HFF.out.2 k hlt 2 (by omega)).1
      have hat := (HFF.out.2 k hlt 1 (by omega)).2
      have hx := (HFF.out.2 k hlt 2 (by omega)).2
      generalize F k 0 = d at *
      generalize F k 1 = at_ at *
      generalize F k 2 = x at *
      go_wp2_with fail
      go_quiet (fail)
      have HA2 : Hid (IsArena (wr.drewN nq) p g L) := HA
      have HW2 : Hid (Blk (wr.drewN nq) gw 3 (ints L)) := HW
      have HU2 : Hid (Upd [] w (wr.drewN nq)) := Lib.hid (HU.out.drewN nq)
      have c3 : (wr.drewN nq).cell? ⟨b, off + k * 3, none⟩ = some (.int .i64 d) := c0
      clear HA HW HU c0 c1 c2
      generalize wr.drewN nq = wd at *
      rcases (show (d = 0 ∨ d = 1) ∨ d = 2 ∨ (d < 0 ∨ 2 < d) by omega) with hd | hd | hd
      · rcases (show (0 ≤ at_ ∧ at_ < (n : Int) * 64) ∨ at_ < 0 ∨ (0 ≤ at_ ∧ (n : Int) * 64 ≤ at_) by omega) with ⟨e1, e2⟩ | e1 | ⟨e1, e2⟩
        · rcases hd with rfl | rfl
          all_goals
            go_wp2_with fail
            refine (store_yes p g L at_ x _ HA2.out e1 (by have := HL.out; omega)).mono ?_
            rintro e w3 ⟨rfl, ha, hu⟩
            have HW3 := Lib.hid (HW2.out.upd hu (by simp; exact HG.out.2.2))
            have HA3 := Lib.hid ha
            have HU3 := Lib.hid (HU2.out.step hu (by simp; omega))
            have cw := HW3.out.int at_.toNat (by have := HL.out; omega)
            have cf := HW3.out.frozen at_.toNat
            generalize L.getD at_.toNat 0 = old at cw
            clear ha hu
            go_wp2_with fail
            refine (err0 _).mono ?_
            rintro e w' ⟨rfl, rfl⟩
            go_wp2_with fail
            go_roundw
            case rel => exact ⟨k + 1, by omega, by go_num, L.set at_.toNat x, Lib.hid (HA3.out.far HG.out.2.1.symm HG.out.2.2.symm _), Lib.hid (by rw [← ints_set_]; exact HW3.out.set_ _ _), Lib.hid (by rw [List.length_set]; exact HL.out), Lib.hid (HU3.out.setCell (.inr HG.out.1) _)⟩
            case measure => simp [intOf]; omega
        · rcases hd with rfl | rfl
          all_goals
            go_wp2_with fail
            refine (store_no p g L at_ x _ HA2.out (by have := HL.out; omega)).mono ?_
            rintro e w' ⟨rfl, rfl⟩
            go_wp2_with fail
            refine (err2 _).mono ?_
            rintro e w' ⟨rfl, rfl⟩
            go_wp2_with fail
            go_roundw
            case rel => exact ⟨k + 1, by omega, by go_num, L, HA2, HW2, HL, HU2⟩
            case measure => simp [intOf]; omega
        · rcases hd with rfl | rfl
          all_goals
            go_wp2_with fail
            refine (store_no p g L at_ x _ HA2.out (by have := HL.out; omega)).mono ?_
            rintro e w' ⟨rfl, rfl⟩
            go_wp2_with fail
            refine (err2 _).mono ?_
            rintro e w' ⟨rfl, rfl⟩
            go_wp2_with fail
            go_roundw
            case rel => exact ⟨k + 1, by omega, by go_num, L, HA2, HW2, HL, HU2⟩
            case measure => simp [intOf]; omega
      · subst hd
        rcases (show at_ < 0 ∨ (0 ≤ at_ ∧ at_ < (n : Int) * 64) ∨ (0 ≤ at_ ∧ (n : Int) * 64 ≤ at_) by omega) with g1 | ⟨g1, g2⟩ | ⟨g1, g2⟩
        · by_cases hxn : x < 0
          · go_wp2_with fail
            refine (fill_arg p at_ x _ (by omega)).mono ?_
            rintro e w' ⟨rfl, rfl⟩
            go_wp2_with fail
            refine (err1 _).mono ?_
            rintro e w' ⟨rfl, rfl⟩
            go_wp2_with fail
            go_roundw
            case rel => exact ⟨k + 1, by omega, by go_num, L, HA2, HW2, HL, HU2⟩
            case measure => simp [intOf]; omega
          · go_wp2_with fail
            refine (fill_low p at_ x _ (by omega) (by omega)).mono ?_
            rintro e w' ⟨rfl, rfl⟩
            go_wp2_with fail
            refine (err2 _).mono ?_
            rintro e w' ⟨rfl, rfl⟩
            go_wp2_with fail
            go_roundw
            case rel => exact ⟨k + 1, by omega, by go_num, L, HA2, HW2, HL, HU2⟩
            case measure => simp [intOf]; omega
        · rcases (show x < 0 ∨ (0 < x ∧ (n : Int) * 64 - at_ < x) ∨ x = 0 ∨ (0 < x ∧ x ≤ (n : Int) * 64 - at_) by omega) with e1 | ⟨e1, e2⟩ | e1 | ⟨e1, e2⟩
          · go_wp2_with fail
            refine (fill_arg p at_ x _ (by omega)).mono ?_
            rintro e w' ⟨rfl, rfl⟩
            go_wp2_with fail
            refine (err1 _).mono ?_
            rintro e w' ⟨rfl, rfl⟩
            go_wp2_with fail
            go_roundw
            case rel => exact ⟨k + 1, by omega, by go_num, L, HA2, HW2, HL, HU2⟩
            case measure => simp [intOf]; omega
          · go_wp2_with fail
            refine (fill_no p g L at_ x _ HA2.out (by have := HL.out; omega) (by omega) (by omega) (by have := HL.out; omega) hat.2).mono ?_
            rintro e w' ⟨rfl, rfl⟩
            go_wp2_with fail
            refine (err2 _).mono ?_
            rintro e w' ⟨rfl, rfl⟩
            go_wp2_with fail
            go_roundw
            case rel => exact ⟨k + 1, by omega, by go_num, L, HA2, HW2, HL, HU2⟩
            case measure => simp [intOf]; omega
          · subst e1
            go_wp2_with fail
            refine (fill_zero p g L at_ _ HA2.out (by have := HL.out; omega) (by omega) hat.2).mono ?_
            rintro e w' ⟨rfl, rfl⟩
            go_wp2_with fail
            refine (err0 _).mono ?_
            rintro e w' ⟨rfl, rfl⟩
            go_wp2_with fail
            refine wp_loop_rounds 1 ?_
            rw [rounds_succ]
            go_wp2_with fail
            go_roundw
            case rel => exact ⟨k + 1, by omega, by go_num, L, HA2, HW2, HL, HU2⟩
            case measure => simp [intOf]; omega
          · go_wp2_with fail
            refine (fill_at p g L at_ x _ HA2.out (by have := HL.out; omega) (by omega) (by omega) (by have := HL.out; omega)).mono ?_
            rintro e w3 ⟨rfl, ha, hu⟩
            have HW3 := Lib.hid (HW2.out.upd hu (by simp; exact HG.out.2.2))
            have HA3 := Lib.hid ha
            have HU3 := Lib.hid (HU2.out.step hu (by simp; omega))
            clear ha hu HA2 HW2 HU2
            go_wp2_with fail
            refine (err0 _).mono ?_
            rintro e w' ⟨rfl, rfl⟩
            go_wp2_with fail
            go_loopw [15] (fun i wr => ∃ j : Nat, j ≤ x ∧ i = .int .i64 j ∧ Hid (IsArena wr p g (filledAt L at_.toNat x.toNat)) ∧ Hid (Blk wr gw 3 (ints (filledAt L at_.toNat j))) ∧ Hid (Upd [] w wr)) (fun i _ => x.toNat - (intOf i).toNat)
            case atStart => exact ⟨0, by omega, rfl, HA3, Lib.hid (by rw [filledAt_zero]; exact HW3.out), HU3⟩
            case round =>
              obtain ⟨j, hj, rfl, HA4, HW4, HU4⟩ := hrel
              have hLL := HL.out
              have hlj := filledAt_length L at_.toNat j (by omega)
              have HLJ := Lib.hid hlj
              have HLL := Lib.hid hLL
              clear hlj hLL
              by_cases hjx : (j : Int) < x
              · have cw : wr.cell? ⟨gw, (at_ + (j : Int)).toNat, none⟩ = some (.int .i64 ((filledAt L at_.toNat j).getD (at_ + (j : Int)).toNat 0)) := HW4.out.int _ (by have := HLJ.out; have := HLL.out; omega)
                have cf := HW4.out.frozen (at_ + (j : Int)).toNat
                generalize (filledAt L at_.toNat j).getD (at_ + (j : Int)).toNat 0 = old at cw
                go_wp2_with fail
                go_roundw
                case rel => exact ⟨j + 1, by omega, by go_num, Lib.hid (HA4.out.far HG.out.2.1.symm HG.out.2.2.symm _), Lib.hid (by
                  have := HW4.out.set_ (at_ + (j : Int)).toNat (.int .i64 0)
                  rw [ints_set_, show (at_ + (j : Int)).toNat = at_.toNat + j from by omega, filledAt_set L at_.toNat j (by have := HLL.out; omega)] at this
                  rw [show (at_ + (j : Int)).toNat = at_.toNat + j from by omega]
                  exact this), Lib.hid (HU4.out.setCell (.inr HG.out.1) _)⟩
                case measure => simp [intOf]; omega
              · have hjx2 : j = x.toNat := by omega
                subst hjx2
                go_wp2_with fail
                go_roundw
                case rel => exact ⟨k + 1, by omega, by go_num, (filledAt L at_.toNat x.toNat), HA4, HW4, (Lib.hid (by have := HLJ.out; have := HLL.out; omega)), HU4⟩
                case measure => simp [intOf]; omega
        · rcases (show x < 0 ∨ (0 < x ∧ (n : Int) * 64 - at_ < x) ∨ x = 0 by omega) with e1 | ⟨e1, e2⟩ | e1
          · go_wp2_with fail
            refine (fill_arg p at_ x _ (by omega)).mono ?_
            rintro e w' ⟨rfl, rfl⟩
            go_wp2_with fail
            refine (err1 _).mono ?_
            rintro e w' ⟨rfl, rfl⟩
            go_wp2_with fail
            go_roundw
            case rel => exact ⟨k + 1, by omega, by go_num, L, HA2, HW2, HL, HU2⟩
            case measure => simp [intOf]; omega
          · go_wp2_with fail
            refine (fill_no p g L at_ x _ HA2.out (by have := HL.out; omega) (by omega) (by omega) (by have := HL.out; omega) hat.2).mono ?_
            rintro e w' ⟨rfl, rfl⟩
            go_wp2_with fail
            refine (err2 _).mono ?_
            rintro e w' ⟨rfl, rfl⟩
            go_wp2_with fail
            go_roundw
            case rel => exact ⟨k + 1, by omega, by go_num, L, HA2, HW2, HL, HU2⟩
            case measure => simp [intOf]; omega
          · subst e1
            go_wp2_with fail
            refine (fill_zero p g L at_ _ HA2.out (by have := HL.out; omega) (by omega) hat.2).mono ?_
            rintro e w' ⟨rfl, rfl⟩
            go_wp2_with fail
            refine (err0 _).mono ?_
            rintro e w' ⟨rfl, rfl⟩
            go_wp2_with fail
            refine wp_loop_rounds 1 ?_
            rw [rounds_succ]
            go_wp2_with fail
            go_roundw
            case rel => exact ⟨k + 1, by omega, by go_num, L, HA2, HW2, HL, HU2⟩
            case measure => simp [intOf]; omega
      · rcases (show (0 ≤ at_ ∧ at_ < (n : Int) * 64) ∨ at_ < 0 ∨ (0 ≤ at_ ∧ (n : Int) * 64 ≤ at_) by omega) with ⟨e1, e2⟩ | e1 | ⟨e1, e2⟩
        · have cw := HW2.out.int at_.toNat (by have := HL.out; omega)
          obtain ⟨v, hv⟩ : ∃ v, L.getD at_.toNat 0 = v := ⟨_, rfl⟩
          have HV := Lib.hid hv
          rw [hv] at cw
          clear hv
          rcases hd with hd | hd
          all_goals
            go_wp2_with fail
            refine (load_yes p g L at_ _ HA2.out e1 (by have := HL.out; omega)).mono ?_
            rintro e w' ⟨rfl, rfl⟩
            rw [HV.out]
            go_wp2_with fail
            refine (err0 _).mono ?_
            rintro e w' ⟨rfl, rfl⟩
            go_wp2_with fail
            go_roundw
            case rel => exact ⟨k + 1, by omega, by go_num, L, HA2, HW2, HL, HU2⟩
            case measure => simp [intOf]; omega
        · rcases hd with hd | hd
          all_goals
            go_wp2_with fail
            refine (load_no p g L at_ _ HA2.out (by have := HL.out; omega)).mono ?_
            rintro e w' ⟨rfl, rfl⟩
            go_wp2_with fail
            refine (err2 _).mono ?_
            rintro e w' ⟨rfl, rfl⟩
            go_wp2_with fail
            go_roundw
            case rel => exact ⟨k + 1, by omega, by go_num, L, HA2, HW2, HL, HU2⟩
            case measure => simp [intOf]; omega
        · rcases hd with hd | hd
          all_goals
            go_wp2_with fail
            refine (load_no p g L at_ _ HA2.out (by have := HL.out; omega)).mono ?_
            rintro e w' ⟨rfl, rfl⟩
            go_wp2_with fail
            refine (err2 _).mono ?_
            rintro e w' ⟨rfl, rfl⟩
            go_wp2_with fail
            go_roundw
            case rel => exact ⟨k + 1, by omega, by go_num, L, HA2, HW2, HL, HU2⟩
            case measure => simp [intOf]; omega
    · skip
      have hL2 : L.length = n * 64 := HL.out
      have HL2 := Lib.hid hL2
      clear hL2
      obtain ⟨wo, rfl⟩ : ∃ wo : World, wo = wr := ⟨_, rfl⟩
      go_wp2_with fail
      go_loopw [18] (fun i wr => ∃ j : Nat, j ≤ n * 64 ∧ i = .int .i64 j ∧ wo = wr) (fun i _ => n * 64 - (intOf i).toNat)
      case atStart => exact ⟨0, Nat.zero_le _, rfl, rfl⟩
      case round =>
        obtain ⟨j, hj, rfl, rfl⟩ := hrel
        by_cases hjl : j < n * 64
        · have cw := HW.out.int j (by have := HL2.out; omega)
          obtain ⟨v, hv⟩ : ∃ v, L.getD j 0 = v := ⟨_, rfl⟩
          have HV := Lib.hid hv
          rw [hv] at cw
          clear hv
          go_wp2_with fail
          refine (load_yes p g L j _ HA.out (by omega) (by have := HL2.out; omega)).mono ?_
          rintro e w' ⟨rfl, rfl⟩
          rw [Int.toNat_natCast, HV.out]
          go_wp2_with fail
          refine (err0 _).mono ?_
          rintro e w' ⟨rfl, rfl⟩
          go_wp2_with fail
          go_roundw
          case rel => exact ⟨j + 1, by omega, by go_num, trivial⟩
          case measure => simp [intOf]; omega
        · have hj2 : j = n * 64 := by omega
          subst hj2
          go_wp2_with fail
          refine (arena_len p g _ _ HA.out).mono ?_
          rintro e w' ⟨rfl, rfl⟩
          rw [HL2.out]
          go_wp2_with fail
          refine (awake1_calls _).mono ?_
          rintro e w5 ⟨rfl, hb⟩
          have HF := Lib.hid (HU.out.step (Upd.of_below hb : Upd [] _ _) (by simp))
          clear hb
          go_wp2_with fail
          go_ret
          exact ⟨rfl, HF.out.below⟩

set_option maxRecDepth 100000 in
set_option maxHeartbeats 8000000 in
theorem runs_empty (n : Nat) (A : Option Addr) (cap : Nat) (w : World) (h1 : 1 ≤ n) (h2 : n ≤ 256) : Calls Try.prog 4 #[.int .i64 n, .slice A 0 cap] w fun e w' => e = .returned (.bool true) ∧ Below w.heap.size w w' := by
  have hn : (0 : Int) ≤ n := by omega
  have hmk := fun W => run_make_all (P := Try.prog) 34 3 (.int .i64 0) 8 Try.underlying34 int_info rfl ((n : Int) * 64) (n * 64) (by omega) (by omega) (by omega) W
  go_enter Try.func4, Try.ntmps4
  go_wp2_with fail
  refine (arena_new_yes n _ h1 h2).mono ?_
  rintro e w1 ⟨p, g, rfl, ha, hp, hg, hb⟩
  have HU := Lib.hid (Upd.of_below hb : Upd [] w w1)
  have H := Lib.hid ha
  clear ha hb
  go_wp2_with fail
  refine (err0 _).mono ?_
  rintro e w' ⟨rfl, rfl⟩
  go_wp2_with fail
  have hgw : w.heap.size ≤ w1.heap.size ∧ w1.heap.size ≠ p ∧ w1.heap.size ≠ g := by
    have := HU.out.size
    have := H.out.1.lt
    have := H.out.2.lt
    omega
  have HG := Lib.hid hgw
  have H2 := Lib.hid (IsArena.upd H.out ((Upd.refl [] w1).alloc (.cells (Array.replicate (n * 64) (.int .i64 0)) 3)) (by simp) (by simp))
  have HW2 := Lib.hid (Blk.new w1 3 (Array.replicate (n * 64) (.int .i64 0)))
  have HU2 := Lib.hid (HU.out.alloc (.cells (Array.replicate (n * 64) (.int .i64 0)) 3))
  clear hgw hmk HU H
  generalize w1.alloc (.cells (Array.replicate (n * 64) (.int .i64 0)) 3) = w2 at *
  generalize w1.heap.size = gw at *
  obtain ⟨L, hL⟩ : ∃ L, L = List.replicate (n * 64) (0 : Int) := ⟨_, rfl⟩
  have HA : Hid (IsArena w2 p g L) := by rw [hL]; exact H2
  have HW : Hid (Blk w2 gw 3 (ints L)) := by rw [hL]; exact Lib.hid (by rw [ints_zero]; exact HW2.out)
  have HL : Hid (L.length = n * 64) := by rw [hL]; exact Lib.hid List.length_replicate
  have HU := HU2
  clear hL H2 HW2 HU2
  obtain ⟨wr, rfl⟩ : ∃ wr, wr = w2 := ⟨_, rfl⟩
  refine wp_loop_rounds 1 ?_
  rw [rounds_succ]
  have hL2 : L.length = n * 64 := HL.out
  have HL2 := Lib.hid hL2
  clear hL2
  obtain ⟨wo, rfl⟩ : ∃ wo : World, wo = wr := ⟨_, rfl⟩
  go_wp2_with fail
  go_loopw [18] (fun i wr => ∃ j : Nat, j ≤ n * 64 ∧ i = .int .i64 j ∧ wo = wr) (fun i _ => n * 64 - (intOf i).toNat)
  case atStart => exact ⟨0, Nat.zero_le _, rfl, rfl⟩
  case round =>
    obtain ⟨j, hj, rfl, rfl⟩ := hrel
    by_cases hjl : j < n * 64
    · have cw := HW.out.int j (by have := HL2.out; omega)
      obtain ⟨v, hv⟩ : ∃ v, L.getD j 0 = v := ⟨_, rfl⟩
      have HV := Lib.hid hv
      rw [hv] at cw
      clear hv
      go_wp2_with fail
      refine (load_yes p g L j _ HA.out (by omega) (by have := HL2.out; omega)).mono ?_
      rintro e w' ⟨rfl, rfl⟩
      rw [Int.toNat_natCast, HV.out]
      go_wp2_with fail
      refine (err0 _).mono ?_
      rintro e w' ⟨rfl, rfl⟩
      go_wp2_with fail
      go_roundw
      case rel => exact ⟨j + 1, by omega, by go_num, trivial⟩
      case measure => simp [intOf]; omega
    · have hj2 : j = n * 64 := by omega
      subst hj2
      go_wp2_with fail
      refine (arena_len p g _ _ HA.out).mono ?_
      rintro e w' ⟨rfl, rfl⟩
      rw [HL2.out]
      go_wp2_with fail
      refine (awake1_calls _).mono ?_
      rintro e w5 ⟨rfl, hb⟩
      have HF := Lib.hid (HU.out.step (Upd.of_below hb : Upd [] _ _) (by simp))
      clear hb
      go_wp2_with fail
      go_ret
      exact ⟨rfl, HF.out.below⟩
end Go.Proofs.Ytnphkgiiondjkaa
