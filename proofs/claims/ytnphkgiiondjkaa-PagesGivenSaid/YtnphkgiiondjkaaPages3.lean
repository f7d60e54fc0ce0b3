/- Layer 3's example; a run of one; the document's answer: NewPages, Take, Give. -/
import Derived.Test.YtnphkgiiondjkaaPages
import Derived.Test.YtnphkgiiondjkaaRef1
namespace Go.Proofs.Ytnphkgiiondjkaa
open Go Go.RowKit

theorem run_one (l : List Bool) (x : Int) : runZ l x 1 = nextZ l false x := by
  refine runZ_eq (by omega) ?_
  rcases isNext_nextZ l false x with ⟨h1, h2⟩ | ⟨k, h1, h2, h3, h4, h5⟩
  · rw [h1]
    refine .inl ⟨rfl, fun a ha hl => ⟨a, by omega, by omega, ?_⟩⟩
    have := h2 a ha (by omega)
    simpa using this
  · rw [h1]
    refine .inr ⟨k, rfl, h2, by omega, fun j hj hl => ?_, fun b hb hl => ⟨b, by omega, by omega, ?_⟩⟩
    · obtain rfl : j = k := by omega
      exact h4
    · have := h5 b hb hl
      simpa using this
theorem new_fill {n : Nat} (h : 1 ≤ n) : (List.replicate n false).set 0 true = fillB n 1 := by rw [← fillB_zero, fillB_set (by omega)]

theorem pages_new_fill (n : Nat) (w : World) (h1 : 1 ≤ n) (h2 : n ≤ 256) : Calls Try.prog 49 #[.int .i64 n] w fun e w' => ∃ q p g, e = .returned (.tuple #[.pointer (some ⟨q, 0, none⟩), .int .i64 0]) ∧ IsPages w' q p g (fillB n 1) ∧
    w.heap.size ≤ q ∧ w.heap.size ≤ p ∧ w.heap.size ≤ g ∧ Below w.heap.size w w' := by
  have := pages_new_yes n w h1 h2
  unfold NewPages at this
  rw [new_fill h1] at this
  exact this

set_option maxHeartbeats 800000 in
theorem awake3_calls (w : World) : Calls Try.prog 52 #[] w fun e w' => e = .returned (.bool true) ∧ Below w.heap.size w w' := by
  have N1 := pages_new_fill 1 w (by omega) (by omega)
  have N3 := fun w => pages_new_fill 3 w (by omega) (by omega)
  have HN1 := Lib.hid N1
  have HN3 := Lib.hid N3
  clear N1 N3
  go_enter Try.func52, Try.ntmps52
  go_wp2_with fail
  refine (HN1.out).mono ?_
  rintro e w1 ⟨q, p, g, rfl, ha, hq, hp, hg, hb⟩
  have H := Lib.hid ha
  have HU : Hid (Upd [] w w1) := Lib.hid (Upd.of_below hb)
  clear ha hb hq hp hg
  go_wp2_with fail
  refine (HN3.out _).mono ?_
  rintro e w2 ⟨q2, p2, g2, rfl, ha, hq, hp, hg, hb⟩
  have H1 := Lib.hid (H.out.upd (Upd.of_below hb : Upd [] w1 w2) (by simp) (by simp) (by simp))
  have H2 := Lib.hid ha
  have HU2 : Hid (Upd [] w w2) := Lib.hid (HU.out.step (Upd.of_below hb : Upd [] w1 w2) (by simp))
  have HG : Hid (w.heap.size ≤ g2) := Lib.hid (by have := HU.out.size; omega)
  have c0 : w2.cell? ⟨q2, 0, none⟩ = some (.pointer (some ⟨p2, 0, none⟩)) := H2.out.1.cell 0
  clear ha hb hq hp hg H HU HN1 HN3
  go_wp2_with fail
  refine (ptake_no q p g _ 1 _ H1.out (by decide) (by omega) (by omega) (show runZ (fillB 1 1) 0 1 = -1 from by decide)).mono ?_
  rintro e w' ⟨rfl, rfl⟩
  go_wp2_with fail
  refine (ptake_yes q2 p2 g2 _ 2 1 _ H2.out (by decide) (by omega) (show runZ (fillB 3 1) 0 2 = 1 from by decide)).mono ?_
  rintro e w3 ⟨rfl, h3, hu⟩
  have H3 := Lib.hid h3
  have HU3 := Lib.hid (HU2.out.step hu (by have := HG.out; simp; omega))
  clear h3 hu
  go_wp2_with fail
  refine (err0 _).mono ?_
  rintro e w' ⟨rfl, rfl⟩
  go_wp2_with fail
  refine (err0 _).mono ?_
  rintro e w' ⟨rfl, rfl⟩
  go_wp2_with fail
  refine (err0 _).mono ?_
  rintro e w' ⟨rfl, rfl⟩
  go_wp2_with fail
  refine (err3 _).mono ?_
  rintro e w' ⟨rfl, rfl⟩
  go_wp2_with fail
  refine (left_any q2 p2 g2 _ _ H3.out (by decide)).mono ?_
  rw [show ((span (fillB 3 1) true 1 2).length : Int) - countB (span (fillB 3 1) true 1 2) = 0 from by decide]
  rintro e w' ⟨rfl, n1, rfl⟩
  have HF := Lib.hid (HU3.out.drewN n1)
  go_wp2_with fail
  go_ret
  exact ⟨rfl, HF.out.below⟩

theorem refnew_calls (n : Nat) (w : World) (h1 : 1 ≤ n) (h2 : n ≤ 256) : Calls Try.prog 54 #[.int .i64 n] w fun e w' => ∃ g, e = .returned (.slice (some ⟨g, 0, none⟩) n n) ∧ Blk w' g 4 (bools (fillB n 1)) ∧ w.heap.size ≤ g ∧ Upd [] w w' := by
  have hmk := fun W => run_make_all (P := Try.prog) 52 4 (.bool false) 1 Try.underlying52 bool_info rfl (n : Int) n rfl (by omega) (by omega) W
  have hB := Blk.new w 4 (Array.replicate n (Value.bool false))
  rw [← bools_zero] at hB
  have c1 := hB.bool 0 (by simp; omega)
  have c2 := hB.frozen 0
  rw [bools_zero] at c1 c2
  have HB := Lib.hid hB
  clear hB
  go_enter Try.func54, Try.ntmps54
  go_wp2_with fail
  go_ret
  refine ⟨w.heap.size, rfl, ?_, by omega, (Upd.refl [] w).alloc _⟩
  rw [← new_fill h1, ← bools_set, bools_zero]
  exact Blk.new _ _ _

/-- How a Got is handed back. -/
theorem got_ret {w : World} {r : Nat} {x e : Value} {a : Act} {R : Ending → World → Prop} (hB : Blk w r 83 #[x, e]) (h4 : a.tmps.getD 4 undef = .pointer (some ⟨r, 0, none⟩)) (hd : a.defers = [])
    (hR : R (.returned (.agg #[x, e])) w) : bodyPost Try.prog Try.f56 R .ret a w :=
  ⟨hd, _, results_cell_row (fn := Try.f56) rfl _ _ r _ _ (0, 0) _ h4 hB Try.underlying83 rfl (by kernel_rfl), hR⟩

/-- The document's answer to a take. -/
theorem rtake_arg (A : Option Addr) (n c : Nat) (k : Int) (w : World) (hk : k < 1) : Calls Try.prog 56 #[.slice A n c, .int .i64 k] w fun e w' => e = .returned (.agg #[.int .i64 0, .int .i64 1]) ∧ Upd [] w w' := by
  go_enter Try.func56, Try.ntmps56
  go_wp2_with fail
  exact got_ret (Blk.new _ _ _) rfl rfl ⟨rfl, (Upd.refl [] w).alloc _⟩
theorem rtake_no (g c : Nat) (l : List Bool) (n : Nat) (k : Int) (w : World) (h : Blk w g 4 (bools l)) (hn : l.length = n) (hl : n ≤ 256) (hk : 1 ≤ k) (hr : runZ l 0 k = -1) :
    Calls Try.prog 56 #[.slice (some ⟨g, 0, none⟩) n c, .int .i64 k] w fun e w' => e = .returned (.agg #[.int .i64 0, .int .i64 3]) ∧ Upd [] w w' := by
  have hrun := fun w' (hb : Blk w' g 4 (bools l)) => ref_run g c l 0 k w' hb (by omega) (by omega)
  rw [hn, hr] at hrun
  have HRUN := Lib.hid hrun
  have H := Lib.hid h
  clear hrun h hr hn
  go_enter Try.func56, Try.ntmps56
  go_wp2_with fail
  refine (HRUN.out _ (H.out.alloc _)).mono ?_
  rintro e w' ⟨rfl, rfl⟩
  go_wp2_with fail
  exact got_ret (Blk.new _ _ _) rfl rfl ⟨rfl, (Upd.refl [] w).alloc _⟩
theorem rtake_yes (g c : Nat) (l : List Bool) (n k a : Nat) (w : World) (h : Blk w g 4 (bools l)) (hn : l.length = n) (hl : n ≤ 256) (hk : 1 ≤ k) (hr : runZ l 0 k = a) :
    Calls Try.prog 56 #[.slice (some ⟨g, 0, none⟩) n c, .int .i64 k] w fun e w' => e = .returned (.agg #[.int .i64 a, .int .i64 0]) ∧ Blk w' g 4 (bools (span l true a k)) ∧ Upd [g] w w' := by
  obtain ⟨hak, _, _⟩ := run_free hk hr
  have hrun := fun w' (hb : Blk w' g 4 (bools l)) => ref_run g c l 0 k w' hb (by omega) (by omega)
  rw [hn, hr] at hrun
  rw [hn] at hak
  have hgr := h.lt
  have hB := h.alloc (.cells #[.int .i64 0, .int .i64 0] 83)
  have hG := Blk.new w 83 #[.int .i64 0, .int .i64 0]
  have hU := (Upd.refl [g] w).alloc (.cells #[.int .i64 0, .int .i64 0] 83)
  have HRUN := Lib.hid hrun
  have HN := Lib.hid hn
  have H := Lib.hid hB
  have HG := Lib.hid hG
  have HU := Lib.hid hU
  have HGR : Hid (w.heap.size ≠ g) := Lib.hid (by omega)
  clear hrun h hr hn hB hG hU hgr
  go_enter Try.func56, Try.ntmps56
  go_wp2_with fail
  refine (HRUN.out _ H.out).mono ?_
  rintro e w' ⟨rfl, rfl⟩
  go_wp2_with fail
  obtain ⟨r, hr⟩ : ∃ r, w.heap.size = r := ⟨_, rfl⟩
  obtain ⟨w1, hw1⟩ : ∃ w1, w.alloc (.cells #[.int .i64 0, .int .i64 0] 83) = w1 := ⟨_, rfl⟩
  have HRW : Hid (w.heap.size ≤ r) := Lib.hid (by omega)
  rw [hr] at HG HGR
  rw [hw1] at H HG HU
  simp only [hr, hw1]
  clear hr hw1 HRUN
  go_loopg [6] k (fun gk i wr => ∃ j : Nat, gk = k - j ∧ j ≤ k ∧ i = .int .i64 ((a + j : Nat) : Int) ∧ Hid (Blk wr g 4 (bools (span l true a j))) ∧ Hid (Blk wr r 83 #[.int .i64 0, .int .i64 0]) ∧ Hid (Upd [g] w wr))
  case atStart => exact ⟨0, rfl, by omega, rfl, H, HG, HU⟩
  case round =>
    clear H HG HU
    obtain ⟨j, rfl, hj, rfl, H, HG, HU⟩ := hrel
    by_cases hlt : j < k
    · have c1 := H.out.bool (a + j) (by rw [span_length, HN.out]; omega)
      have c2 := H.out.frozen (a + j)
      go_wp2_with fail
      go_roundg (k - (j + 1))
      case measure => omega
      case rel =>
        refine ⟨j + 1, rfl, by omega, by go_num, Lib.hid ?_, Lib.hid (HG.out.far HGR.out _), Lib.hid (HU.out.setCell (by simp) _)⟩
        rw [span_succ, ← bools_set]
        exact H.out.set_ _ _
    · obtain rfl : j = k := by omega
      have c1 : wr.cell? ⟨r, 0, none⟩ = some (.int .i64 0) := HG.out.cell 0
      have c2 : wr.cell? ⟨r, 1, none⟩ = some (.int .i64 0) := HG.out.cell 1
      have c3 := HG.out.frozen 0
      have c4 := HG.out.frozen 1
      go_wp2_with fail
      refine got_ret ((HG.out.set_ 0 (.int .i64 a)).set_ 1 (.int .i64 0)) rfl rfl ⟨rfl, ?_, ?_⟩
      · exact (H.out.far HGR.out.symm _).far HGR.out.symm _
      · exact (HU.out.setCell (.inr HRW.out) _).setCell (.inr HRW.out) _

theorem rgive_arg (A : Option Addr) (n c : Nat) (a k : Int) (w : World) (h : k < 1 ∨ a < 1) : Calls Try.prog 55 #[.slice A n c, .int .i64 a, .int .i64 k] w fun e w' => e = .returned (.int .i64 1) ∧ w = w' := by
  by_cases hk : k < 1
  · clear h
    go_enter Try.func55, Try.ntmps55
    go_wp2_with fail
    go_ret
    exact ⟨rfl, rfl⟩
  · have ha : a < 1 := by omega
    clear h
    go_enter Try.func55, Try.ntmps55
    go_wp2_with fail
    go_ret
    exact ⟨rfl, rfl⟩
theorem rgive_none (A : Option Addr) (n c : Nat) (a k : Int) (w : World) (hl : n ≤ 256) (hk : 1 ≤ k) (ha : 1 ≤ a) (hn : (n : Int) < a ∨ (n : Int) - a < k) :
    Calls Try.prog 55 #[.slice A n c, .int .i64 a, .int .i64 k] w fun e w' => e = .returned (.int .i64 2) ∧ w = w' := by
  by_cases h1 : (n : Int) ≤ a
  · clear hn
    go_enter Try.func55, Try.ntmps55
    go_wp2_with fail
    go_ret
    exact ⟨rfl, rfl⟩
  · have h2 : (n : Int) - a < k := by omega
    clear hn
    go_enter Try.func55, Try.ntmps55
    go_wp2_with fail
    go_ret
    exact ⟨rfl, rfl⟩
theorem rgive_no (g c : Nat) (l : List Bool) (n a k : Nat) (w : World) (h : Blk w g 4 (bools l)) (hn : l.length = n) (hl : n ≤ 256) (hk : 1 ≤ k) (ha : 1 ≤ a) (hak : a + k ≤ n) (hf : fullB l a k = false) :
    Calls Try.prog 55 #[.slice (some ⟨g, 0, none⟩) n c, .int .i64 a, .int .i64 k] w fun e w' => e = .returned (.int .i64 2) ∧ w = w' := by
  have H := Lib.hid h
  have HF := Lib.hid hf
  have HN := Lib.hid hn
  clear h hf hn
  go_enter Try.func55, Try.ntmps55
  go_wp2_with fail
  go_loopg [7] k (fun gk i wr => ∃ j : Nat, gk = k - j ∧ j ≤ k ∧ i = .int .i64 ((a + j : Nat) : Int) ∧ w = wr ∧ Hid (∀ x, a ≤ x → x < a + j → l.getD x false = true))
  case atStart => exact ⟨0, rfl, by omega, rfl, rfl, Lib.hid (fun x h1 h2 => by omega)⟩
  case round =>
    obtain ⟨j, rfl, hj, rfl, rfl, HA⟩ := hrel
    by_cases hlt : j < k
    · have c1 := H.out.bool (a + j) (by rw [HN.out]; omega)
      obtain ⟨t, ht⟩ : ∃ t, l.getD (a + j) false = t := ⟨_, rfl⟩
      rw [ht] at c1
      have HT := Lib.hid ht
      clear ht
      cases t with
      | true =>
        go_wp2_with fail
        go_roundg (k - (j + 1))
        case measure => omega
        case rel =>
          refine ⟨j + 1, rfl, by omega, by go_num, rfl, Lib.hid (fun x h1 h2 => ?_)⟩
          rcases Nat.eq_or_lt_of_le (show x ≤ a + j by omega) with rfl | h3
          · exact HT.out
          · exact HA.out x h1 h3
      | false =>
        go_wp2_with fail
        go_ret
        exact ⟨rfl, rfl⟩
    · exfalso
      obtain rfl : j = k := by omega
      have := fullB_true.2 HA.out
      rw [HF.out] at this
      cases this
theorem rgive_yes (g c : Nat) (l : List Bool) (n a k : Nat) (w : World) (h : Blk w g 4 (bools l)) (hn : l.length = n) (hl : n ≤ 256) (hk : 1 ≤ k) (ha : 1 ≤ a) (hak : a + k ≤ n) (hf : fullB l a k = true) :
    Calls Try.prog 55 #[.slice (some ⟨g, 0, none⟩) n c, .int .i64 a, .int .i64 k] w fun e w' => e = .returned (.int .i64 0) ∧ Blk w' g 4 (bools (span l false a k)) ∧ Upd [g] w w' := by
  have H := Lib.hid h
  have HF := Lib.hid (fullB_true.1 hf)
  have HN := Lib.hid hn
  clear h hf hn
  go_enter Try.func55, Try.ntmps55
  go_wp2_with fail
  go_loopg [7] k (fun gk i wr => ∃ j : Nat, gk = k - j ∧ j ≤ k ∧ i = .int .i64 ((a + j : Nat) : Int) ∧ w = wr ∧ Hid (∀ x, a ≤ x → x < a + j → l.getD x false = true))
  case atStart => exact ⟨0, rfl, by omega, rfl, rfl, Lib.hid (fun x h1 h2 => by omega)⟩
  case round =>
    obtain ⟨j, rfl, hj, rfl, rfl, HA⟩ := hrel
    by_cases hlt : j < k
    · have c1 := H.out.bool (a + j) (by rw [HN.out]; omega)
      rw [HF.out (a + j) (by omega) (by omega)] at c1
      go_wp2_with fail
      go_roundg (k - (j + 1))
      case measure => omega
      case rel => exact ⟨j + 1, rfl, by omega, by go_num, rfl, Lib.hid (fun x h1 h2 => HF.out x h1 (by omega))⟩
    · obtain rfl : j = k := by omega
      clear HA
      go_wp2_with fail
      go_loopg [8] j (fun gk i wr => ∃ d : Nat, gk = j - d ∧ d ≤ j ∧ i = .int .i64 ((a + d : Nat) : Int) ∧ Hid (Blk wr g 4 (bools (span l false a d))) ∧ Hid (Upd [g] w wr))
      case atStart => exact ⟨0, rfl, by omega, rfl, H, Lib.hid (Upd.refl _ _)⟩
      case round =>
        obtain ⟨d, rfl, hd, rfl, HD, HU⟩ := hrel
        by_cases hlt : d < j
        · have c1 := HD.out.bool (a + d) (by rw [span_length, HN.out]; omega)
          have c2 := HD.out.frozen (a + d)
          go_wp2_with fail
          go_roundg (j - (d + 1))
          case measure => omega
          case rel =>
            refine ⟨d + 1, rfl, by omega, by go_num, Lib.hid ?_, Lib.hid (HU.out.setCell (by simp) _)⟩
            rw [span_succ, ← bools_set]
            exact HD.out.set_ _ _
        · obtain rfl : d = j := by omega
          go_wp2_with fail
          go_ret
          exact ⟨rfl, HD.out, HU.out⟩
end Go.Proofs.Ytnphkgiiondjkaa
