/- The contracts of package block: New, Words, Take, Give, Empty, Full, over a state: which blocks of a page are taken. -/
import Derived.Test.YtendjhobemlhoaaBits3
import Derived.Deep.QuietTactic
import Derived.BigQuiet
namespace Go.Proofs.Ytendjhobemlhoaa
open Go Go.RowKit

/-- A page at block q, its bits at p and g. -/
def IsPage (w : World) (q p g : Nat) (words : Nat) (l : List Bool) : Prop := Blk w q 128 #[.pointer (some ⟨p, 0, none⟩), .int .i64 words] ∧ IsBits w p g l
section
variable {w w' : World} {q p g words : Nat} {l : List Bool} {E : List Nat}
theorem IsPage.upd (h : IsPage w q p g words l) (hu : Upd E w w') (hq : q ∉ E) (hp : p ∉ E) (hg : g ∉ E) : IsPage w' q p g words l := ⟨h.1.upd hu hq, h.2.upd hu hp hg⟩
theorem IsPage.ne (h : IsPage w q p g words l) : q ≠ g := h.1.ne_ h.2.2 (by decide)
end
def wordsOf (c : Nat) : Nat := 2 * 2 ^ c
def roomOf (c : Nat) : Nat := 32 / 2 ^ c

def NewPage (c : Nat) (w : World) (e : Ending) (w' : World) : Prop := ∃ q p g, e = .returned (.tuple #[.pointer (some ⟨q, 0, none⟩), .int .i64 0]) ∧ IsPage w' q p g (wordsOf c) (List.replicate (roomOf c) false) ∧
  w.heap.size ≤ q ∧ w.heap.size ≤ p ∧ w.heap.size ≤ g ∧ Below w.heap.size w w'

theorem sizes5_calls (w : World) : Calls Try.prog 81 #[] w fun e w' => ∃ h, e = .returned (.slice (some ⟨h, 0, none⟩) 5 5) ∧ Blk w' h 3 (ints [2, 4, 8, 16, 32]) ∧ w.heap.size ≤ h ∧ Below w.heap.size w w' := by
  go_enter Try.func81, Try.ntmps81
  go_wp2_with fail
  go_ret
  exact ⟨w.heap.size, rfl, Blk.new _ _ _, by omega, (Below.refl _ _).alloc (Nat.le_refl _) _⟩

theorem block_new_no (c : Int) (w : World) (h : c < 0 ∨ 5 ≤ c) : Calls Try.prog 92 #[.int .i64 c] w fun e w' => e = .returned (.tuple #[.pointer none, .int .i64 1]) ∧ Below w.heap.size w w' := by
  rcases h with h | h
  · go_enter Try.func92, Try.ntmps92
    go_wp2_with fail
    refine (sizes5_calls _).mono ?_
    rintro e w1 ⟨h, rfl, HB, hh, hb⟩
    have HB := Lib.hid hb
    clear hb
    go_wp2_with fail
    go_ret2
    exact ⟨rfl, HB.out⟩
  · have h' : ¬ c < 0 := by omega
    go_enter Try.func92, Try.ntmps92
    go_wp2_with fail
    refine (sizes5_calls _).mono ?_
    rintro e w1 ⟨h, rfl, HB, hh, hb⟩
    have HB := Lib.hid hb
    clear hb
    go_wp2_with fail
    go_ret2
    exact ⟨rfl, HB.out⟩

theorem block_new_yes (c : Nat) (w : World) (h : c < 5) : Calls Try.prog 92 #[.int .i64 c] w (NewPage c w) := by
  have hc : c = 0 ∨ c = 1 ∨ c = 2 ∨ c = 3 ∨ c = 4 := by omega
  clear h
  rcases hc with rfl | rfl | rfl | rfl | rfl
  · go_enter Try.func92, Try.ntmps92
    go_wp2_with fail
    refine (sizes5_calls _).mono ?_
    rintro e w1 ⟨h, rfl, hB, hh, hb⟩
    have HB := Lib.hid hb
    have c1 : w1.cell? ⟨h, 0, none⟩ = some (.int .i64 2) := hB.int 0 (by decide)
    have HL := Lib.hid hB.lt
    clear hb hB
    go_wp2_with fail
    refine (bits_new_yes 32 _ (by omega)).mono ?_
    rintro e w2 ⟨p, g, rfl, ha, hp, hg, hb⟩
    have c2 := (hb.cell (p := ⟨h, 0, none⟩) HL.out).trans c1
    have HP := Lib.hid (And.intro hp hg)
    have HB2 := Lib.hid hb
    have H := Lib.hid ha
    clear ha hb c1 HL hp hg
    go_wp2_with fail
    go_ret2
    have h1 := HB.out.size
    have h2 := HB2.out.size
    have h3 := HP.out
    exact ⟨w2.heap.size, p, g, rfl, ⟨Blk.new _ _ _, H.out.alloc _⟩, by omega, by omega, by omega, (((Upd.of_below HB.out : Upd [] w w1).step (Upd.of_below HB2.out : Upd [] _ _) (by simp)).alloc _).below⟩
  · go_enter Try.func92, Try.ntmps92
    go_wp2_with fail
    refine (sizes5_calls _).mono ?_
    rintro e w1 ⟨h, rfl, hB, hh, hb⟩
    have HB := Lib.hid hb
    have c1 : w1.cell? ⟨h, 1, none⟩ = some (.int .i64 4) := hB.int 1 (by decide)
    have HL := Lib.hid hB.lt
    clear hb hB
    go_wp2_with fail
    refine (bits_new_yes 16 _ (by omega)).mono ?_
    rintro e w2 ⟨p, g, rfl, ha, hp, hg, hb⟩
    have c2 := (hb.cell (p := ⟨h, 1, none⟩) HL.out).trans c1
    have HP := Lib.hid (And.intro hp hg)
    have HB2 := Lib.hid hb
    have H := Lib.hid ha
    clear ha hb c1 HL hp hg
    go_wp2_with fail
    go_ret2
    have h1 := HB.out.size
    have h2 := HB2.out.size
    have h3 := HP.out
    exact ⟨w2.heap.size, p, g, rfl, ⟨Blk.new _ _ _, H.out.alloc _⟩, by omega, by omega, by omega, (((Upd.of_below HB.out : Upd [] w w1).step (Upd.of_below HB2.out : Upd [] _ _) (by simp)).alloc _).below⟩
  · go_enter Try.func92, Try.ntmps92
    go_wp2_with fail
    refine (sizes5_calls _).mono ?_
    rintro e w1 ⟨h, rfl, hB, hh, hb⟩
    have HB := Lib.hid hb
    have c1 : w1.cell? ⟨h, 2, none⟩ = some (.int .i64 8) := hB.int 2 (by decide)
    have HL := Lib.hid hB.lt
    clear hb hB
    go_wp2_with fail
    refine (bits_new_yes 8 _ (by omega)).mono ?_
    rintro e w2 ⟨p, g, rfl, ha, hp, hg, hb⟩
    have c2 := (hb.cell (p := ⟨h, 2, none⟩) HL.out).trans c1
    have HP := Lib.hid (And.intro hp hg)
    have HB2 := Lib.hid hb
    have H := Lib.hid ha
    clear ha hb c1 HL hp hg
    go_wp2_with fail
    go_ret2
    have h1 := HB.out.size
    have h2 := HB2.out.size
    have h3 := HP.out
    exact ⟨w2.heap.size, p, g, rfl, ⟨Blk.new _ _ _, H.out.alloc _⟩, by omega, by omega, by omega, (((Upd.of_below HB.out : Upd [] w w1).step (Upd.of_below HB2.out : Upd [] _ _) (by simp)).alloc _).below⟩
  · go_enter Try.func92, Try.ntmps92
    go_wp2_with fail
    refine (sizes5_calls _).mono ?_
    rintro e w1 ⟨h, rfl, hB, hh, hb⟩
    have HB := Lib.hid hb
    have c1 : w1.cell? ⟨h, 3, none⟩ = some (.int .i64 16) := hB.int 3 (by decide)
    have HL := Lib.hid hB.lt
    clear hb hB
    go_wp2_with fail
    refine (bits_new_yes 4 _ (by omega)).mono ?_
    rintro e w2 ⟨p, g, rfl, ha, hp, hg, hb⟩
    have c2 := (hb.cell (p := ⟨h, 3, none⟩) HL.out).trans c1
    have HP := Lib.hid (And.intro hp hg)
    have HB2 := Lib.hid hb
    have H := Lib.hid ha
    clear ha hb c1 HL hp hg
    go_wp2_with fail
    go_ret2
    have h1 := HB.out.size
    have h2 := HB2.out.size
    have h3 := HP.out
    exact ⟨w2.heap.size, p, g, rfl, ⟨Blk.new _ _ _, H.out.alloc _⟩, by omega, by omega, by omega, (((Upd.of_below HB.out : Upd [] w w1).step (Upd.of_below HB2.out : Upd [] _ _) (by simp)).alloc _).below⟩
  · go_enter Try.func92, Try.ntmps92
    go_wp2_with fail
    refine (sizes5_calls _).mono ?_
    rintro e w1 ⟨h, rfl, hB, hh, hb⟩
    have HB := Lib.hid hb
    have c1 : w1.cell? ⟨h, 4, none⟩ = some (.int .i64 32) := hB.int 4 (by decide)
    have HL := Lib.hid hB.lt
    clear hb hB
    go_wp2_with fail
    refine (bits_new_yes 2 _ (by omega)).mono ?_
    rintro e w2 ⟨p, g, rfl, ha, hp, hg, hb⟩
    have c2 := (hb.cell (p := ⟨h, 4, none⟩) HL.out).trans c1
    have HP := Lib.hid (And.intro hp hg)
    have HB2 := Lib.hid hb
    have H := Lib.hid ha
    clear ha hb c1 HL hp hg
    go_wp2_with fail
    go_ret2
    have h1 := HB.out.size
    have h2 := HB2.out.size
    have h3 := HP.out
    exact ⟨w2.heap.size, p, g, rfl, ⟨Blk.new _ _ _, H.out.alloc _⟩, by omega, by omega, by omega, (((Upd.of_below HB.out : Upd [] w w1).step (Upd.of_below HB2.out : Upd [] _ _) (by simp)).alloc _).below⟩

theorem words_nil (w : World) : Calls Try.prog 73 #[.pointer none] w fun e w' => e = .returned (.int .i64 0) ∧ w = w' := by
  go_enter Try.func73, Try.ntmps73
  go_wp2_with fail
  go_ret
  exact ⟨rfl, rfl⟩
theorem words_any (q p g words : Nat) (l : List Bool) (w : World) (h : IsPage w q p g words l) : Calls Try.prog 73 #[.pointer (some ⟨q, 0, none⟩)] w fun e w' => e = .returned (.int .i64 words) ∧ w = w' := by
  have c1 : w.cell? ⟨q, 1, none⟩ = some (.int .i64 words) := h.1.cell 1
  clear h
  go_enter Try.func73, Try.ntmps73
  go_wp2_with fail
  go_ret
  exact ⟨rfl, rfl⟩
theorem full_nil (w : World) : Calls Try.prog 99 #[.pointer none] w fun e w' => e = .returned (.bool false) ∧ ∃ m, w' = w.drewN m := by
  go_enter Try.func99, Try.ntmps99
  go_wp2_with fail
  go_quiet (fail)
  go_wp2_with fail
  go_ret
  exact ⟨rfl, _, rfl⟩
theorem full_any (q p g words : Nat) (l : List Bool) (w : World) (h : IsPage w q p g words l) (hl : l.length ≤ 16384) : Calls Try.prog 99 #[.pointer (some ⟨q, 0, none⟩)] w fun e w' => e = .returned (.bool (decide (countB l = l.length))) ∧ ∃ m, w' = w.drewN m := by
  have c0 : w.cell? ⟨q, 0, none⟩ = some (.pointer (some ⟨p, 0, none⟩)) := h.1.cell 0
  have HQ : Hid (∀ n, IsBits (w.drewN n) p g l) := Lib.hid (fun n => h.2)
  have HL := Lib.hid hl
  clear h hl
  go_enter Try.func99, Try.ntmps99
  go_wp2_with fail
  go_quiet (first
    | (go_at_call 104; refine Calls.quiet_of_same ((count_any p g l _ (HQ.out _) HL.out).mono fun e w' h => ⟨h.1, h.2.symm⟩))
    | (go_at_call 94; refine Calls.quiet_of_same ((bits_size p g l _ (HQ.out _)).mono fun e w' h => ⟨h.1, h.2.symm⟩)))
  go_wp2_with fail
  go_ret
  have hb : (((countB l : Nat) : Int) == ((l.length : Nat) : Int)) = decide (countB l = l.length) := by
    by_cases h : countB l = l.length
    · simp [h]
    · have h2 : ¬ ((countB l : Nat) : Int) = ((l.length : Nat) : Int) := by omega
      simp [h, h2]
  exact ⟨congrArg (fun t => Ending.returned (Value.bool t)) hb, _, rfl⟩
theorem take_nil (w : World) : Calls Try.prog 85 #[.pointer none] w fun e w' => e = .returned (.tuple #[.int .i64 0, .int .i64 2]) ∧ w = w' := by
  go_enter Try.func85, Try.ntmps85
  go_wp2_with fail
  go_ret2
  exact ⟨rfl, rfl⟩
theorem take_no (q p g words : Nat) (l : List Bool) (w : World) (h : IsPage w q p g words l) (hl : l.length ≤ 16384) (hn : nextZ l false 0 = -1) :
    Calls Try.prog 85 #[.pointer (some ⟨q, 0, none⟩)] w fun e w' => e = .returned (.tuple #[.int .i64 0, .int .i64 3]) ∧ w = w' := by
  have c0 : w.cell? ⟨q, 0, none⟩ = some (.pointer (some ⟨p, 0, none⟩)) := h.1.cell 0
  have H := Lib.hid h.2
  have HL := Lib.hid hl
  have HN := Lib.hid hn
  clear h hl hn
  go_enter Try.func85, Try.ntmps85
  go_wp2_with fail
  have hq := next_any p g l 0 false _ H.out (by omega) HL.out
  rw [HN.out] at hq
  refine hq.mono ?_
  rintro e w' ⟨rfl, rfl⟩
  clear hq
  go_wp2_with fail
  go_ret2
  exact ⟨rfl, rfl⟩
theorem take_yes (q p g words : Nat) (l : List Bool) (i : Nat) (w : World) (h : IsPage w q p g words l) (hl : l.length ≤ 16384) (hn : nextZ l false 0 = i) :
    Calls Try.prog 85 #[.pointer (some ⟨q, 0, none⟩)] w fun e w' => e = .returned (.tuple #[.int .i64 i, .int .i64 0]) ∧ IsPage w' q p g words (l.set i true) ∧ Upd [g] w w' := by
  have c0 : w.cell? ⟨q, 0, none⟩ = some (.pointer (some ⟨p, 0, none⟩)) := h.1.cell 0
  have HI : Hid (i < l.length) := Lib.hid (by have := nextZ_range l false 0; omega)
  have hP := Lib.hid h
  have H := Lib.hid h.2
  have HL := Lib.hid hl
  have HN := Lib.hid hn
  clear h hl hn
  go_enter Try.func85, Try.ntmps85
  go_wp2_with fail
  have hq := next_any p g l 0 false _ H.out (by omega) HL.out
  rw [HN.out] at hq
  refine hq.mono ?_
  rintro e w' ⟨rfl, rfl⟩
  clear hq
  go_wp2_with fail
  refine (set_yes p g l true _ 1 [(i : Int)] _ (H.out.alloc _) (isInts_one w 3 (i : Int)) (by simp) (fun x hx => by rw [List.mem_singleton] at hx; subst hx; exact placeB_yes (by omega) (by have := HI.out; omega))).mono ?_
  rintro e w2 ⟨rfl, hset, hu⟩
  rw [setAll_one] at hset
  have HS := Lib.hid hset
  have HU : Hid (Upd [g] w w2) := Lib.hid (((Upd.refl [g] w).alloc _).trans hu)
  clear hset hu
  go_wp2_with fail
  go_ret2
  exact ⟨rfl, ⟨hP.out.1.upd HU.out (by simpa using hP.out.ne), HS.out⟩, HU.out⟩

end Go.Proofs.Ytendjhobemlhoaa
