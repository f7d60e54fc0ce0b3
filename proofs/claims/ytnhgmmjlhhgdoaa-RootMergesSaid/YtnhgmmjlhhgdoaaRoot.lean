/- The contracts of package root (New, Place, Root, Roots), of the document's SameInts, and layer 11's example. -/
import Derived.Test.YtnhgmmjlhhgdoaaMerge
import Derived.Deep.QuietTactic
import Derived.BigQuiet
namespace Go.Proofs.Ytnhgmmjlhhgdoaa
open Go Go.RowKit

/-- Sixteen roots at block r. -/
def IsRoots (w : World) (r : Nat) (l : List Int) : Prop := Blk w r 72 (ints l) ∧ l.length = 16
section
variable {w w' : World} {r : Nat} {l : List Int} {E : List Nat}
theorem IsRoots.upd (h : IsRoots w r l) (hu : Upd E w w') (hr : r ∉ E) : IsRoots w' r l := ⟨h.1.upd hu hr, h.2⟩
end

theorem root_new (w : World) : Calls Try.prog 25 #[] w fun e w' => ∃ r, e = .returned (.pointer (some ⟨r, 0, none⟩)) ∧ IsRoots w' r (List.replicate 16 0) ∧ w.heap.size ≤ r ∧ Upd [] w w' := by
  go_enter Try.func25, Try.ntmps25
  go_wp2_with fail
  go_ret
  exact ⟨w.heap.size, rfl, ⟨Blk.new _ _ _, rfl⟩, by omega, (Upd.refl [] w).alloc _⟩

theorem rplace_nil (i : Int) (w : World) : Calls Try.prog 51 #[.pointer none, .int .i64 i] w fun e w' => e = .returned (.bool false) ∧ w = w' := by
  go_enter Try.func51, Try.ntmps51
  go_wp2_with fail
  go_ret
  exact ⟨rfl, rfl⟩
theorem rplace_any (r : Nat) (i : Int) (w : World) : Calls Try.prog 51 #[.pointer (some ⟨r, 0, none⟩), .int .i64 i] w fun e w' => e = .returned (.bool (decide (0 ≤ i ∧ i < 16))) ∧ w = w' := by
  by_cases h0 : i < 0
  · have hd : decide (0 ≤ i ∧ i < 16) = false := decide_eq_false (by omega)
    rw [hd]
    clear hd
    go_enter Try.func51, Try.ntmps51
    go_wp2_with fail
    go_ret
    exact ⟨rfl, rfl⟩
  · by_cases h1 : i < 16
    · have hd : decide (0 ≤ i ∧ i < 16) = true := decide_eq_true (by omega)
      rw [hd]
      clear hd
      go_enter Try.func51, Try.ntmps51
      go_wp2_with fail
      go_ret
      exact ⟨rfl, rfl⟩
    · have hd : decide (0 ≤ i ∧ i < 16) = false := decide_eq_false (by omega)
      rw [hd]
      clear hd
      go_enter Try.func51, Try.ntmps51
      go_wp2_with fail
      go_ret
      exact ⟨rfl, rfl⟩

theorem rput_nil (i at_ : Int) (w : World) : Calls Try.prog 27 #[.pointer none, .int .i64 i, .int .i64 at_] w fun e w' => e = .returned (.int .i64 1) ∧ w = w' := by
  go_enter Try.func27, Try.ntmps27
  go_wp2_with fail
  refine (rplace_nil i _).mono ?_
  rintro e w' ⟨rfl, rfl⟩
  go_wp2_with fail
  go_ret
  exact ⟨rfl, rfl⟩
theorem rput_no (r : Nat) (i x : Int) (w : World) (h : i < 0 ∨ 16 ≤ i ∨ x < 0) : Calls Try.prog 27 #[.pointer (some ⟨r, 0, none⟩), .int .i64 i, .int .i64 x] w fun e w' => e = .returned (.int .i64 1) ∧ w = w' := by
  by_cases hi : 0 ≤ i ∧ i < 16
  · have hx : x < 0 := by omega
    have HI : Hid (decide (0 ≤ i ∧ i < 16) = true) := Lib.hid (decide_eq_true hi)
    clear h hi
    go_enter Try.func27, Try.ntmps27
    go_wp2_with fail
    have hq := rplace_any r i w
    rw [HI.out] at hq
    refine hq.mono ?_
    rintro e w' ⟨rfl, rfl⟩
    clear hq
    go_wp2_with fail
    go_ret
    exact ⟨rfl, rfl⟩
  · have HI : Hid (decide (0 ≤ i ∧ i < 16) = false) := Lib.hid (decide_eq_false hi)
    clear h hi
    go_enter Try.func27, Try.ntmps27
    go_wp2_with fail
    have hq := rplace_any r i w
    rw [HI.out] at hq
    refine hq.mono ?_
    rintro e w' ⟨rfl, rfl⟩
    clear hq
    go_wp2_with fail
    go_ret
    exact ⟨rfl, rfl⟩
theorem rput_yes (r i : Nat) (x : Int) (l : List Int) (w : World) (h : IsRoots w r l) (hi : i < 16) (hx : 0 ≤ x) : Calls Try.prog 27 #[.pointer (some ⟨r, 0, none⟩), .int .i64 i, .int .i64 x] w fun e w' => e = .returned (.int .i64 0) ∧ IsRoots w' r (l.set i x) ∧ Upd [r] w w' := by
  have HI : Hid (decide (0 ≤ (i : Int) ∧ (i : Int) < 16) = true) := Lib.hid (decide_eq_true (by omega))
  have c1 := h.1.int i (by rw [h.2]; exact hi)
  have c2 := h.1.frozen i
  have H := Lib.hid h
  clear h
  go_enter Try.func27, Try.ntmps27
  go_wp2_with fail
  have hq := rplace_any r i w
  rw [HI.out] at hq
  refine hq.mono ?_
  rintro e w' ⟨rfl, rfl⟩
  clear hq
  go_wp2_with fail
  go_ret
  refine ⟨rfl, ⟨?_, by rw [List.length_set, H.out.2]⟩, (Upd.refl [r] w).setCell (.inl (by simp)) _⟩
  rw [← ints_set_]
  exact H.out.1.set_ _ _

theorem rget_nil (i : Int) (w : World) : Calls Try.prog 28 #[.pointer none, .int .i64 i] w fun e w' => e = .returned (.tuple #[.int .i64 0, .int .i64 1]) ∧ w = w' := by
  go_enter Try.func28, Try.ntmps28
  go_wp2_with fail
  refine (rplace_nil i _).mono ?_
  rintro e w' ⟨rfl, rfl⟩
  go_wp2_with fail
  go_ret2
  exact ⟨rfl, rfl⟩
theorem rget_no (r : Nat) (i : Int) (w : World) (h : i < 0 ∨ 16 ≤ i) : Calls Try.prog 28 #[.pointer (some ⟨r, 0, none⟩), .int .i64 i] w fun e w' => e = .returned (.tuple #[.int .i64 0, .int .i64 1]) ∧ w = w' := by
  have HI : Hid (decide (0 ≤ i ∧ i < 16) = false) := Lib.hid (decide_eq_false (by omega))
  clear h
  go_enter Try.func28, Try.ntmps28
  go_wp2_with fail
  have hq := rplace_any r i w
  rw [HI.out] at hq
  refine hq.mono ?_
  rintro e w' ⟨rfl, rfl⟩
  clear hq
  go_wp2_with fail
  go_ret2
  exact ⟨rfl, rfl⟩
theorem rget_yes (r i : Nat) (l : List Int) (w : World) (h : IsRoots w r l) (hi : i < 16) : Calls Try.prog 28 #[.pointer (some ⟨r, 0, none⟩), .int .i64 i] w fun e w' => e = .returned (.tuple #[.int .i64 (l.getD i 0), .int .i64 0]) ∧ w = w' := by
  have HI : Hid (decide (0 ≤ (i : Int) ∧ (i : Int) < 16) = true) := Lib.hid (decide_eq_true (by omega))
  have c1 := h.1.int i (by rw [h.2]; exact hi)
  clear h
  go_enter Try.func28, Try.ntmps28
  go_wp2_with fail
  have hq := rplace_any r i w
  rw [HI.out] at hq
  refine hq.mono ?_
  rintro e w' ⟨rfl, rfl⟩
  clear hq
  go_wp2_with fail
  go_ret2
  exact ⟨rfl, rfl⟩

theorem roots_nil (w : World) : Calls Try.prog 29 #[.pointer none] w fun e w' => e = .returned (.slice none 0 0) ∧ w = w' := by
  go_enter Try.func29, Try.ntmps29
  go_wp2_with fail
  go_ret
  exact ⟨rfl, rfl⟩
theorem roots_any (r : Nat) (l : List Int) (w : World) (h : IsRoots w r l) : Calls Try.prog 29 #[.pointer (some ⟨r, 0, none⟩)] w fun e w' => ∃ v, e = .returned v ∧ Own w' w.heap.size v l ∧ Upd [] w w' := by
  have hcon := Try.slices_Clone_int r 0 16 16 l w (by rw [h.2]; omega) (by omega) (fun j hj => by rw [Nat.zero_add]; exact h.1.int j hj)
  rw [List.take_of_length_le (by rw [h.2]; omega)] at hcon
  have HL := Lib.hid h.2
  have HC := Lib.hid hcon
  clear hcon h
  go_enter Try.func29, Try.ntmps29
  go_wp2_with fail
  refine (HC.out).mono ?_
  rintro e w2 ⟨v, rfl, ho, _, hb⟩
  have HO : Hid (Own w2 w.heap.size v l) := Lib.hid (by unfold Own; rw [HL.out]; exact ho)
  have HU : Hid (Upd [] w w2) := Lib.hid (Upd.of_below hb)
  clear ho hb HC
  go_wp2_with fail
  go_ret
  exact ⟨_, rfl, HO.out, HU.out⟩

theorem same_calls (A B : Option Addr) (n m c d : Nat) (xs ys : List Int) (w : World) (hn : xs.length = n) (hm : ys.length = m) (hA : IsInts w A xs) (hB : IsInts w B ys) (hl : n ≤ 65536) (hl2 : m ≤ 65536) :
    Calls Try.prog 23 #[.slice A n c, .slice B m d] w fun e w' => e = .returned (.bool (decide (xs = ys))) ∧ ∃ q, w' = w.drewN q := by
  have HN := Lib.hid hn
  have HM := Lib.hid hm
  by_cases hne : n = m
  · subst hne
    have HA := Lib.hid hA
    have HB := Lib.hid hB
    clear hn hm hA hB
    go_enter Try.func23, Try.ntmps23
    go_wp2_with fail
    go_loopg [5] n (fun gk i wr => ∃ j q : Nat, gk = n - j ∧ j ≤ n ∧ i = .int .i64 j ∧ wr = w.drewN q ∧ Hid (∀ k, k < j → xs.getD k 0 = ys.getD k 0))
    case atStart => exact ⟨0, 0, rfl, by omega, rfl, rfl, Lib.hid (fun k h => by omega)⟩
    case round =>
      obtain ⟨j, q, rfl, hj, rfl, rfl, HE⟩ := hrel
      by_cases hlt : j < n
      · obtain ⟨b1, o1, rfl, _, c1⟩ := Reads.at HA.out HN.out hlt
        obtain ⟨b2, o2, rfl, _, c2⟩ := Reads.at HB.out HM.out hlt
        obtain ⟨x, hx⟩ : ∃ x, xs.getD j 0 = x := ⟨_, rfl⟩
        obtain ⟨y, hy⟩ : ∃ y, ys.getD j 0 = y := ⟨_, rfl⟩
        rw [hx] at c1
        rw [hy] at c2
        have HX := Lib.hid hx
        have HY := Lib.hid hy
        clear hx hy
        by_cases hxy : x = y
        · subst hxy
          go_upto_region 6 with fail
          go_quiet (fail)
          go_wp2_with fail
          go_roundg (n - (j + 1))
          case measure => omega
          case rel =>
            refine ⟨j + 1, q + nq, rfl, by omega, by go_num, by first | rfl | simp, Lib.hid (fun k hk => ?_)⟩
            rcases Nat.eq_or_lt_of_le (show k ≤ j by omega) with rfl | h3
            · rw [HX.out, HY.out]
            · exact HE.out k h3
        · go_upto_region 6 with fail
          go_quiet (fail)
          go_wp2_with fail
          go_ret
          have hd : decide (xs = ys) = false := decide_eq_false (fun h => hxy (by rw [← HX.out, ← HY.out, h]))
          exact ⟨by rw [hd]; rfl, q + nq, by first | rfl | simp⟩
      · obtain rfl : j = n := by omega
        have hd : decide (xs = ys) = true := decide_eq_true (by
          apply List.ext_getElem (by rw [HN.out, HM.out])
          intro k h1 h2
          have := HE.out k (by rw [← HN.out]; exact h1)
          rw [List.getD_eq_getElem?_getD, List.getD_eq_getElem?_getD, List.getElem?_eq_getElem h1, List.getElem?_eq_getElem h2] at this
          exact this)
        have HD := Lib.hid hd
        clear hd
        go_wp2_with fail
        go_ret
        exact ⟨by rw [HD.out]; rfl, q, rfl⟩
  · have hd : decide (xs = ys) = false := decide_eq_false (fun h => hne (by rw [← hn, ← hm, h]))
    rw [hd]
    clear hd hA hB hn hm
    go_enter Try.func23, Try.ntmps23
    go_wp2_with fail
    go_ret
    exact ⟨rfl, 0, rfl⟩
end Go.Proofs.Ytnhgmmjlhhgdoaa
