/- The contracts of references: may, Refer, strength. -/
import Derived.Test.YtendjhobemlhoaaRefs
namespace Go.Proofs.Ytendjhobemlhoaa
open Go Go.RowKit

section
variable {l : List Int} {F : Int → Ob} {rows : List (List Int)} {O : Nat → Prop}
theorem rmay_none (r q h np n : Nat) (s a b : Int) (w : World) (H : RefO w r q h np l F rows n O) (hs : 1 ≤ s ∧ s ≤ 3) (hb : b < -1 ∨ rows.length ≤ b) : Calls Try.prog 62 #[.pointer (some ⟨r, 0, none⟩), .int .i64 s, .int .i64 a, .int .i64 b] w fun e w' => e = .returned (.int .i64 2) ∧ w = w' := by
  obtain ⟨s1, s2⟩ := hs
  obtain ⟨c0, c1, c2, c3⟩ := H.cells
  have HL := Lib.hid (ref_len r q h np n w H)
  generalize hm : rows.length = m at *
  have hm8 : m ≤ 8 := by
    obtain ⟨Oq, H5, _⟩ := H
    obtain ⟨v, Oh, H6, _⟩ := H5.que
    have := H6.few
    omega
  clear hm
  clear H
  have n1 : ¬ s < 1 := by omega
  have n2 : ¬ 3 < s := by omega
  by_cases h1 : b < -1
  · clear hb
    go_enter Try.func62, Try.ntmps62
    go_wp2_with fail
    go_ret
    exact ⟨rfl, rfl⟩
  · have h2 : (m : Int) ≤ b := by omega
    clear hb
    go_enter Try.func62, Try.ntmps62
    go_wp2_with fail
    refine (HL.out).mono ?_
    rintro e w' ⟨rfl, rfl⟩
    go_wp2_with fail
    go_ret
    exact ⟨rfl, rfl⟩
theorem rmay_phantom (r q h np n : Nat) (a : Int) (w : World) (H : RefO w r q h np l F rows n O) : Calls Try.prog 62 #[.pointer (some ⟨r, 0, none⟩), .int .i64 3, .int .i64 a, .int .i64 (-1)] w fun e w' => e = .returned (.int .i64 1) ∧ w = w' := by
  obtain ⟨c0, c1, c2, c3⟩ := H.cells
  have HL := Lib.hid (ref_len r q h np n w H)
  generalize hm : rows.length = m at *
  have hm8 : m ≤ 8 := by
    obtain ⟨Oq, H5, _⟩ := H
    obtain ⟨v, Oh, H6, _⟩ := H5.que
    have := H6.few
    omega
  clear hm
  clear H
  have h2 : ¬ (m : Int) ≤ -1 := by omega
  go_enter Try.func62, Try.ntmps62
  go_wp2_with fail
  refine (HL.out).mono ?_
  rintro e w' ⟨rfl, rfl⟩
  go_wp2_with fail
  go_ret
  exact ⟨rfl, rfl⟩
theorem rmay_head (r q h np n : Nat) (s a b : Int) (w : World) (H : RefO w r q h np l F rows n O) (hs : 1 ≤ s ∧ s ≤ 3) (hb : -1 ≤ b ∧ b < rows.length) (hp : s ≠ 3 ∨ 0 ≤ b) (ha : a ∉ l) :
    Calls Try.prog 62 #[.pointer (some ⟨r, 0, none⟩), .int .i64 s, .int .i64 a, .int .i64 b] w fun e w' => e = .returned (.int .i64 2) ∧ Upd [] w w' := by
  obtain ⟨s1, s2⟩ := hs
  obtain ⟨Oh, hh⟩ := H.heap
  have HH := Lib.hid (head_no h np a w hh ha)
  clear hh ha
  obtain ⟨c0, c1, c2, c3⟩ := H.cells
  have HL := Lib.hid (ref_len r q h np n w H)
  generalize hm : rows.length = m at *
  have hm8 : m ≤ 8 := by
    obtain ⟨Oq, H5, _⟩ := H
    obtain ⟨v, Oh, H6, _⟩ := H5.que
    have := H6.few
    omega
  clear hm
  by_cases h3 : s = 3
  · subst h3
    have hb0 : ¬ b < 0 := by omega
    have hb1 : 0 ≤ b := by omega
    clear hp s1 s2
    clear H
    have n3 : ¬ b < -1 := by omega
    have n4 : ¬ (m : Int) ≤ b := by omega
    go_enter Try.func62, Try.ntmps62
    go_wp2_with fail
    refine (HL.out).mono ?_
    rintro e w' ⟨rfl, rfl⟩
    go_wp2_with fail
    refine (HH.out).mono ?_
    rintro e w1 ⟨rfl, hu⟩
    have HU := Lib.hid hu
    clear hu
    go_wp2_with fail
    go_ret
    exact ⟨rfl, HU.out.alloc _⟩
  · clear hp
    clear H
    have n1 : ¬ s < 1 := by omega
    have n2 : ¬ 3 < s := by omega
    have n3 : ¬ b < -1 := by omega
    have n4 : ¬ (m : Int) ≤ b := by omega
    have n5 : b < m := by omega
    go_enter Try.func62, Try.ntmps62
    go_wp2_with fail
    refine (HL.out).mono ?_
    rintro e w' ⟨rfl, rfl⟩
    go_wp2_with fail
    refine (HH.out).mono ?_
    rintro e w1 ⟨rfl, hu⟩
    have HU := Lib.hid hu
    clear hu
    go_wp2_with fail
    go_ret
    exact ⟨rfl, HU.out.alloc _⟩
theorem rmay_yes (r q h np n : Nat) (s a b : Int) (w : World) (H : RefO w r q h np l F rows n O) (hs : 1 ≤ s ∧ s ≤ 3) (hb : -1 ≤ b ∧ b < rows.length) (hp : s ≠ 3 ∨ 0 ≤ b) (ha : a ∈ l) :
    Calls Try.prog 62 #[.pointer (some ⟨r, 0, none⟩), .int .i64 s, .int .i64 a, .int .i64 b] w fun e w' => e = .returned (.int .i64 0) ∧ Upd [] w w' := by
  obtain ⟨s1, s2⟩ := hs
  obtain ⟨Oh, hh⟩ := H.heap
  have hq := head_yes h np a (F a).k (F a).c (F a).ws.length (F a).f w hh ha rfl
  generalize (F a).k = k at *
  generalize (F a).c = c at *
  generalize (F a).f = f at *
  generalize (F a).ws.length = len at *
  have HH := Lib.hid hq
  clear hh ha hq
  obtain ⟨c0, c1, c2, c3⟩ := H.cells
  have HL := Lib.hid (ref_len r q h np n w H)
  generalize hm : rows.length = m at *
  have hm8 : m ≤ 8 := by
    obtain ⟨Oq, H5, _⟩ := H
    obtain ⟨v, Oh, H6, _⟩ := H5.que
    have := H6.few
    omega
  clear hm
  by_cases h3 : s = 3
  · subst h3
    have hb0 : ¬ b < 0 := by omega
    have hb1 : 0 ≤ b := by omega
    clear hp s1 s2
    clear H
    have n3 : ¬ b < -1 := by omega
    have n4 : ¬ (m : Int) ≤ b := by omega
    go_enter Try.func62, Try.ntmps62
    go_wp2_with fail
    refine (HL.out).mono ?_
    rintro e w' ⟨rfl, rfl⟩
    go_wp2_with fail
    refine (HH.out).mono ?_
    rintro e w1 ⟨rfl, hu⟩
    have HU := Lib.hid hu
    clear hu
    go_wp2_with fail
    go_ret
    exact ⟨rfl, HU.out.alloc _⟩
  · clear hp
    clear H
    have n1 : ¬ s < 1 := by omega
    have n2 : ¬ 3 < s := by omega
    have n3 : ¬ b < -1 := by omega
    have n4 : ¬ (m : Int) ≤ b := by omega
    have n5 : b < m := by omega
    go_enter Try.func62, Try.ntmps62
    go_wp2_with fail
    refine (HL.out).mono ?_
    rintro e w' ⟨rfl, rfl⟩
    go_wp2_with fail
    refine (HH.out).mono ?_
    rintro e w1 ⟨rfl, hu⟩
    have HU := Lib.hid hu
    clear hu
    go_wp2_with fail
    go_ret
    exact ⟨rfl, HU.out.alloc _⟩

theorem strength_nil (a : Int) (w : World) : Calls Try.prog 63 #[.pointer none, .int .i64 a] w fun e w' => e = .returned (.tuple #[.int .i64 0, .int .i64 5]) ∧ w = w' := by
  go_enter Try.func63, Try.ntmps63
  go_wp2_with fail
  go_ret2
  exact ⟨rfl, rfl⟩
theorem strength_no (r q h np n : Nat) (a : Int) (w : World) (H : RefO w r q h np l F rows n O) (ha : a ∉ l ∨ a ∈ l ∧ (F a).k ≠ 4) : Calls Try.prog 63 #[.pointer (some ⟨r, 0, none⟩), .int .i64 a] w fun e w' => e = .returned (.tuple #[.int .i64 0, .int .i64 5]) ∧ Upd [] w w' := by
  obtain ⟨Oh, hh⟩ := H.heap
  obtain ⟨c0, c1, c2, c3⟩ := H.cells
  rcases ha with ha | ⟨ha, hk⟩
  · have HH := Lib.hid (head_no h np a w hh ha)
    clear hh ha H
    go_enter Try.func63, Try.ntmps63
    go_wp2_with fail
    refine (HH.out).mono ?_
    rintro e w1 ⟨rfl, hu⟩
    have HU := Lib.hid hu
    clear hu
    go_wp2_with fail
    go_ret2
    exact ⟨rfl, HU.out.alloc _⟩
  · have hq := head_yes h np a (F a).k (F a).c (F a).ws.length (F a).f w hh ha rfl
    generalize (F a).k = k at *
    generalize (F a).c = c at *
    generalize (F a).f = f at *
    generalize (F a).ws.length = len at *
    have HH := Lib.hid hq
    clear hh ha hq H
    go_enter Try.func63, Try.ntmps63
    go_wp2_with fail
    refine (HH.out).mono ?_
    rintro e w1 ⟨rfl, hu⟩
    have HU := Lib.hid hu
    clear hu
    go_wp2_with fail
    go_ret2
    exact ⟨rfl, HU.out.alloc _⟩
theorem strength_yes (r q h np n : Nat) (a c : Int) (w : World) (H : RefO w r q h np l F rows n O) (ha : a ∈ l) (hk : (F a).k = 4) (hc : (F a).c = c) : Calls Try.prog 63 #[.pointer (some ⟨r, 0, none⟩), .int .i64 a] w fun e w' => e = .returned (.tuple #[.int .i64 c, .int .i64 0]) ∧ Upd [] w w' := by
  obtain ⟨Oh, hh⟩ := H.heap
  obtain ⟨c0, c1, c2, c3⟩ := H.cells
  have hq := head_yes h np a (F a).k (F a).c (F a).ws.length (F a).f w hh ha rfl
  rw [hk, hc] at hq
  generalize (F a).f = f at *
  generalize (F a).ws.length = len at *
  have HH := Lib.hid hq
  clear hh ha hq H hc hk
  go_enter Try.func63, Try.ntmps63
  go_wp2_with fail
  refine (HH.out).mono ?_
  rintro e w1 ⟨rfl, hu⟩
  have HU := Lib.hid hu
  clear hu
  go_wp2_with fail
  go_ret2
  exact ⟨rfl, HU.out.alloc _⟩
end
end Go.Proofs.Ytendjhobemlhoaa
