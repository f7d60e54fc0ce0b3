/- The walk of SpaceRuns: too few pages, too many, more than 40. -/
import Derived.Test.YtpkbdmieelgdlaaSpaceRuns0
import Derived.Test.YtpkbdmieelgdlaaDoc2
namespace Go.Proofs.Ytpkbdmieelgdlaa
open Go Go.RowKit

set_option maxRecDepth 100000 in
set_option maxHeartbeats 1600000 in
theorem sruns_no (n : Int) (A : Option Addr) (len cap : Nat) (w : World) (h : n < 1 ∨ 256 < n) :
    Calls Try.prog 3 #[.int .i64 n, .slice A len cap] w fun e w' => e = .returned (.bool true) ∧ Below w.heap.size w w' := by
  have hn := fun w => space_new_no n w h
  have HN := Lib.hid hn
  have herr := fun W => err_calls 1 W (by omega)
  have HE := Lib.hid herr
  clear hn herr
  rcases h with h | h
  · go_enter Try.func3, Try.ntmps3
    go_wp2_with fail
    refine (HN.out _).mono ?_
    rintro e w' ⟨rfl, rfl⟩
    go_wp2_with fail
    refine (HE.out _).mono ?_
    rintro e w' ⟨rfl, rfl⟩
    go_wp2_with fail
    refine (awake6_calls _).mono ?_
    rintro e w6 ⟨rfl, hb⟩
    have HB := Lib.hid hb
    clear hb
    go_wp2_with fail
    go_ret
    exact ⟨rfl, HB.out⟩
  · have h' : ¬ n < 1 := by omega
    go_enter Try.func3, Try.ntmps3
    go_wp2_with fail
    refine (HN.out _).mono ?_
    rintro e w' ⟨rfl, rfl⟩
    go_wp2_with fail
    refine (HE.out _).mono ?_
    rintro e w' ⟨rfl, rfl⟩
    go_wp2_with fail
    refine (awake6_calls _).mono ?_
    rintro e w6 ⟨rfl, hb⟩
    have HB := Lib.hid hb
    clear hb
    go_wp2_with fail
    go_ret
    exact ⟨rfl, HB.out⟩
theorem newSp_used (n : Nat) : (newSp n).used = 0 ∧ (newSp n).pg.length = n := by
  have hl : (newSp n).pg.length = n := by simp [newSp]
  refine ⟨?_, hl⟩
  have he : (newSp n).each = [] := by
    unfold Sp.each
    rw [List.flatMap_eq_nil_iff]
    intro p _
    rcases dnew_at n p with h | h <;> rw [h] <;> rfl
  unfold Sp.used
  rw [he]; rfl
set_option maxRecDepth 100000 in
set_option maxHeartbeats 1600000 in
theorem sruns_big (n : Nat) (A : Option Addr) (len cap : Nat) (w : World) (h1 : 40 < n) (h2 : n ≤ 256) :
    Calls Try.prog 3 #[.int .i64 n, .slice A len cap] w fun e w' => e = .returned (.bool true) ∧ Below w.heap.size w w' := by
  have hn := fun w => spo_new n w (by omega) h2
  have HN := Lib.hid hn
  obtain ⟨hu, hl⟩ := newSp_used n
  have HUS := Lib.hid hu
  have HPL := Lib.hid hl
  clear hn hu hl
  go_enter Try.func3, Try.ntmps3
  go_wp2_with fail
  refine (HN.out _).mono ?_
  rintro e w1 ⟨s, O, rfl, hs, hO, hu⟩
  have HS := Lib.hid hs
  have HU := Lib.hid hu
  obtain ⟨L, hL, _⟩ := hs
  have c0 : w1.cell? ⟨s, 0, none⟩ = some (.pointer (some ⟨L.pa, 0, none⟩)) := hL.box.cell 0
  have c1 : w1.cell? ⟨s, 1, none⟩ = some (.pointer (some ⟨L.q0, 0, none⟩)) := hL.box.cell 1
  clear hO hu hL
  go_wp2_with fail
  refine (err0 _).mono ?_
  rintro e w' ⟨rfl, rfl⟩
  have hcap := spo_cap s (newSp n) w1 HS.out
  rw [HPL.out] at hcap
  go_wp2_with fail
  refine (hcap).mono ?_
  rintro e w' ⟨rfl, rfl⟩
  have hus := spo_used s (newSp n) w1 HS.out
  rw [HUS.out] at hus
  go_wp2_with fail
  refine (hus).mono ?_
  rintro e w2 ⟨rfl, hu2⟩
  have HU2 := Lib.hid (HU.out.trans hu2)
  clear hu2
  go_wp2_with fail
  refine (awake6_calls _).mono ?_
  rintro e w6 ⟨rfl, hb⟩
  have HB := Lib.hid (HU2.out.trans (Upd.of_below hb))
  clear hb
  go_wp2_with fail
  go_ret
  exact ⟨rfl, HB.out.below⟩
end Go.Proofs.Ytpkbdmieelgdlaa
