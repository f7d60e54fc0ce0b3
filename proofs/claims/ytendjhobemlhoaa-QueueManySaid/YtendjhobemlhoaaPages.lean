/- The contracts of package pages: New, row, Take, Give, Left, over a state: which pages are taken. -/
import Derived.Test.YtendjhobemlhoaaBits3
import Derived.Test.YtendjhobemlhoaaOwn
import Derived.Test.YtendjhobemlhoaaRange
import Derived.Deep.LoopGhost
import Derived.Deep.CutBlock
import Derived.Deep.DeepCutAuto
import Derived.Deep.RegionHeld3
import Derived.Deep.QuietTactic
import Derived.BigQuiet
namespace Go.Proofs.Ytendjhobemlhoaa
open Go Go.RowKit

/-- Pages at block q, their bits at p and g. -/
def IsPages (w : World) (q p g : Nat) (l : List Bool) : Prop := Blk w q 146 #[.pointer (some ⟨p, 0, none⟩)] ∧ IsBits w p g l
section
variable {w w' : World} {q p g : Nat} {l : List Bool} {E : List Nat}
theorem IsPages.upd (h : IsPages w q p g l) (hu : Upd E w w') (hq : q ∉ E) (hp : p ∉ E) (hg : g ∉ E) : IsPages w' q p g l := ⟨h.1.upd hu hq, h.2.upd hu hp hg⟩
theorem IsPages.ne (h : IsPages w q p g l) : q ≠ g := h.1.ne_ h.2.2 (by decide)
end

def NewPages (n : Nat) (w : World) (e : Ending) (w' : World) : Prop := ∃ q p g, e = .returned (.tuple #[.pointer (some ⟨q, 0, none⟩), .int .i64 0]) ∧ IsPages w' q p g ((List.replicate n false).set 0 true) ∧
  w.heap.size ≤ q ∧ w.heap.size ≤ p ∧ w.heap.size ≤ g ∧ Below w.heap.size w w'

theorem pages_new_no (n : Int) (w : World) (h : n < 1 ∨ 256 < n) : Calls Try.prog 76 #[.int .i64 n] w fun e w' => e = .returned (.tuple #[.pointer none, .int .i64 1]) ∧ w = w' := by
  rcases h with h | h
  · go_enter Try.func76, Try.ntmps76
    go_wp2_with fail
    go_ret2
    exact ⟨rfl, rfl⟩
  · have h' : ¬ n < 1 := by omega
    go_enter Try.func76, Try.ntmps76
    go_wp2_with fail
    go_ret2
    exact ⟨rfl, rfl⟩

theorem pages_new_yes (n : Nat) (w : World) (h1 : 1 ≤ n) (h2 : n ≤ 256) : Calls Try.prog 76 #[.int .i64 n] w (NewPages n w) := by
  go_enter Try.func76, Try.ntmps76
  go_wp2_with fail
  refine (bits_new_yes n _ (by omega)).mono ?_
  rintro e w1 ⟨p, g, rfl, ha, hp, hg, hb⟩
  have H := Lib.hid ha
  have HB := Lib.hid hb
  have HP := Lib.hid (And.intro hp hg)
  clear ha hb hp hg
  go_wp2_with fail
  refine (set_yes p g (List.replicate n false) true _ 1 [((0 : Nat) : Int)] _ (H.out.alloc _) (isInts_one w1 3 ((0 : Nat) : Int)) (by simp) (fun x hx => by rw [List.mem_singleton] at hx; subst hx; exact placeB_yes (by omega) (by simp; omega))).mono ?_
  rintro e w2 ⟨rfl, hset, hu⟩
  rw [setAll_one] at hset
  have HS := Lib.hid hset
  have HU : Hid (Upd [] w w2) := Lib.hid (((Upd.of_below HB.out : Upd [] w w1).alloc _).step hu (by have := HP.out; simp; omega))
  clear hset hu
  go_wp2_with fail
  go_ret2
  have h3 := HP.out
  have h4 := HU.out.size
  exact ⟨w2.heap.size, p, g, rfl, ⟨Blk.new _ _ _, HS.out.alloc _⟩, by omega, by omega, by omega, (HU.out.alloc _).below⟩

theorem row_calls (a k : Nat) (w : World) (ha : a ≤ 65536) (hk : k ≤ 65536) : Calls Try.prog 90 #[.int .i64 a, .int .i64 k] w fun e w' => ∃ v, e = .returned v ∧ Own w' w.heap.size v (rowZ a k) ∧ Upd [] w w' := by
  go_enter Try.func90, Try.ntmps90
  go_wp2_with fail
  go_loopg [5, 8] k (fun gk v i wr => ∃ j : Nat, gk = k - j ∧ j ≤ k ∧ i = .int .i64 j ∧ Hid (Own wr w.heap.size v (rowZ a j)) ∧ Hid (Upd [] w wr))
  case atStart => exact ⟨0, rfl, by omega, rfl, Lib.hid (Own.nil _ _), Lib.hid (Upd.refl _ _)⟩
  case round =>
    obtain ⟨j, rfl, hj, rfl, HO, HU⟩ := hrel
    by_cases hlt : j < k
    · go_wp2_with (at_builtin; refine wpList_push w rfl _ _ rfl w.heap.size _ (rowZ a j) rfl (HO.out.alloc _) wr.heap.size ((a + j : Nat) : Int) rfl (Blk.new _ _ _) (by rw [rowZ_length]; omega) (Nat.le_refl _) (HU.out.alloc _) (by have := HU.out.size; simp; omega) ?_)
      intro v' w2 hO2 hU2 hS2
      have HO2 : Hid (Own w2 w.heap.size v' (rowZ a (j + 1))) := Lib.hid (by rw [rowZ_succ]; simpa using hO2)
      have HU2 := Lib.hid hU2
      clear hO2 hU2 hS2
      go_wp2_with fail
      go_roundg (k - (j + 1))
      case measure => omega
      case rel => exact ⟨j + 1, rfl, by omega, by go_num, HO2, HU2⟩
    · obtain rfl : j = k := by omega
      go_wp2_with fail
      go_ret
      exact ⟨_, rfl, HO.out, HU.out⟩

theorem ptake_nil (k : Int) (w : World) : Calls Try.prog 83 #[.pointer none, .int .i64 k] w fun e w' => e = .returned (.tuple #[.int .i64 0, .int .i64 2]) ∧ w = w' := by
  go_enter Try.func83, Try.ntmps83
  go_wp2_with fail
  go_ret2
  exact ⟨rfl, rfl⟩
theorem ptake_arg (q : Nat) (k : Int) (w : World) (hk : k < 1) : Calls Try.prog 83 #[.pointer (some ⟨q, 0, none⟩), .int .i64 k] w fun e w' => e = .returned (.tuple #[.int .i64 0, .int .i64 1]) ∧ w = w' := by
  go_enter Try.func83, Try.ntmps83
  go_wp2_with fail
  go_ret2
  exact ⟨rfl, rfl⟩
theorem ptake_no (q p g : Nat) (l : List Bool) (k : Int) (w : World) (h : IsPages w q p g l) (hl : l.length ≤ 256) (hk : 1 ≤ k) (BK : k ≤ 9223372036854775807) (hn : runZ l 0 k = -1) :
    Calls Try.prog 83 #[.pointer (some ⟨q, 0, none⟩), .int .i64 k] w fun e w' => e = .returned (.tuple #[.int .i64 0, .int .i64 3]) ∧ w = w' := by
  have c0 : w.cell? ⟨q, 0, none⟩ = some (.pointer (some ⟨p, 0, none⟩)) := h.1.cell 0
  have H := Lib.hid h.2
  have HL : Hid (l.length ≤ 16384) := Lib.hid (by omega)
  have HN := Lib.hid hn
  clear h hl hn
  go_enter Try.func83, Try.ntmps83
  go_wp2_with fail
  have hq := run_any p g l 0 k _ H.out (by omega) (by omega) HL.out
  rw [HN.out] at hq
  refine hq.mono ?_
  rintro e w' ⟨rfl, rfl⟩
  clear hq
  go_wp2_with fail
  go_ret2
  exact ⟨rfl, rfl⟩
theorem ptake_yes (q p g : Nat) (l : List Bool) (k a : Nat) (w : World) (h : IsPages w q p g l) (hl : l.length ≤ 256) (hk : 1 ≤ k) (hn : runZ l 0 k = a) :
    Calls Try.prog 83 #[.pointer (some ⟨q, 0, none⟩), .int .i64 k] w fun e w' => e = .returned (.tuple #[.int .i64 a, .int .i64 0]) ∧ IsPages w' q p g (span l true a k) ∧ Upd [g] w w' := by
  have c0 : w.cell? ⟨q, 0, none⟩ = some (.pointer (some ⟨p, 0, none⟩)) := h.1.cell 0
  obtain ⟨hak, _, _⟩ := run_free hk hn
  have hP := Lib.hid h
  have H := Lib.hid h.2
  have HL : Hid (l.length ≤ 16384) := Lib.hid (by omega)
  have HN := Lib.hid hn
  have hk9 : k ≤ 256 := by omega
  clear h hn
  go_enter Try.func83, Try.ntmps83
  go_wp2_with fail
  have hq := run_any p g l 0 k _ H.out (by omega) (by omega) HL.out
  rw [HN.out] at hq
  refine hq.mono ?_
  rintro e w' ⟨rfl, rfl⟩
  clear hq
  have hsp : ∀ x ∈ rowZ a k, placeB l x = true := fun x hx => by
    have := mem_rowZ hx
    exact placeB_yes this.1 (by omega)
  have HSP := Lib.hid hsp
  have HKL : Hid (a + k ≤ 65536) := Lib.hid (by omega)
  clear hsp
  go_upto_region 8 with fail
  go_region_held3 (fun w' => w'.cell? ⟨q, 0, none⟩ = some (.pointer (some ⟨p, 0, none⟩))) (first | exact c0 | exact e0 | exact f0)
    (first
      | (go_at_call 90; refine (row_calls a k _ (by have := HKL.out; omega) (by have := HKL.out; omega)).mono ?_; rintro e w2 ⟨v, rfl, ho, hu⟩
         obtain ⟨A, cap, hv, hI, _⟩ := ho.form
         rw [rowZ_length] at hv
         subst hv
         have e0 : w2.cell? ⟨q, 0, none⟩ = some (.pointer (some ⟨p, 0, none⟩)) := (hu.cell (p := ⟨q, 0, none⟩) hP.out.1.lt (by simp)).trans c0
         have HI := Lib.hid hI
         have HU2 : Hid (Upd [] w w2) := Lib.hid ((Upd.refl [] w).drew.trans hu)
         clear hI ho hu)
      | (go_at_call 88; have hs := set_yes p g l true A cap (rowZ a k) w2 (H.out.upd HU2.out (by simp) (by simp)) HI.out (by rw [rowZ_length]; have := HKL.out; omega) HSP.out
         rw [rowZ_length] at hs
         refine hs.mono ?_
         clear hs
         rintro e w3 ⟨rfl, hset, hu⟩
         have f0 : w3.cell? ⟨q, 0, none⟩ = some (.pointer (some ⟨p, 0, none⟩)) := (hu.cell (p := ⟨q, 0, none⟩) (Nat.lt_of_lt_of_le hP.out.1.lt HU2.out.size) (by simpa using hP.out.ne)).trans e0
         have HS := Lib.hid hset
         have HU3 : Hid (Upd [g] w w3) := Lib.hid ((HU2.out.mono (by simp)).trans hu)
         clear hset hu))
  go_wp2_with fail
  go_ret2
  exact ⟨rfl, ⟨hP.out.1.upd HU3.out (by simpa using hP.out.ne), HS.out⟩, HU3.out⟩

end Go.Proofs.Ytendjhobemlhoaa
