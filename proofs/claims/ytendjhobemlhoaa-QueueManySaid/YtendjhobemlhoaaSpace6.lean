/- The contract of Alloc as a function of the space's state. -/
import Derived.Test.YtendjhobemlhoaaSpace5
namespace Go.Proofs.Ytendjhobemlhoaa
open Go Go.RowKit

theorem alloc_nil (n : Int) (w : World) : Calls Try.prog 57 #[.pointer none, .int .i64 n] w fun e w' => e = .returned (.tuple #[.int .i64 0, .int .i64 2]) ∧ Upd [] w w' := by
  go_enter Try.func57, Try.ntmps57
  go_wp2_with fail
  refine (block_calls n _).mono ?_
  rintro e w1 ⟨rfl, hb⟩
  have HU : Hid (Upd [] w w1) := Lib.hid (Upd.of_below hb)
  clear hb
  go_wp2_with fail
  go_ret2
  exact ⟨rfl, HU.out⟩
theorem alloc_arg (s : Nat) (n : Int) (w : World) (hn : blockZ n = 0) : Calls Try.prog 57 #[.pointer (some ⟨s, 0, none⟩), .int .i64 n] w fun e w' => e = .returned (.tuple #[.int .i64 0, .int .i64 1]) ∧ Upd [] w w' := by
  have hbc := fun w => block_calls n w
  rw [hn] at hbc
  have HBC := Lib.hid hbc
  clear hbc hn
  go_enter Try.func57, Try.ntmps57
  go_wp2_with fail
  refine (HBC.out _).mono ?_
  rintro e w1 ⟨rfl, hb⟩
  have HU : Hid (Upd [] w w1) := Lib.hid (Upd.of_below hb)
  clear hb
  go_wp2_with fail
  go_ret2
  exact ⟨rfl, HU.out⟩
/-- place tells that there is no room. -/
theorem alloc_full (s : Nat) (n : Int) (m : Nat) (w : World) (hn : blockZ n = m) (hm : 1 ≤ m) (hp : ∀ w1, Upd [] w w1 → Calls Try.prog 70 #[.pointer (some ⟨s, 0, none⟩), .int .i64 n] w1 fun e w' => e = .returned (.tuple #[.int .i64 0, .int .i64 3]) ∧ Upd [] w1 w') :
    Calls Try.prog 57 #[.pointer (some ⟨s, 0, none⟩), .int .i64 n] w fun e w' => e = .returned (.tuple #[.int .i64 0, .int .i64 3]) ∧ Upd [] w w' := by
  have hbc := fun w => block_calls n w
  rw [hn] at hbc
  have HBC := Lib.hid hbc
  have HPL := Lib.hid hp
  have hm0 : ((m : Int) == 0) = false := by simp; omega
  clear hbc hn hp
  go_enter Try.func57, Try.ntmps57
  go_wp2_with fail
  refine (HBC.out _).mono ?_
  rintro e w1 ⟨rfl, hb⟩
  have HU : Hid (Upd [] w w1) := Lib.hid (Upd.of_below hb)
  clear hb
  go_wp2_with fail
  refine (HPL.out _ HU.out).mono ?_
  rintro e w2 ⟨rfl, hu⟩
  have HU2 : Hid (Upd [] w w2) := Lib.hid (HU.out.trans hu)
  clear hu
  go_wp2_with fail
  go_ret2
  exact ⟨rfl, HU2.out⟩
/-- place tells where, and the words are filled. -/
theorem alloc_done (s : Nat) (L : Lay) (S S1 : Sp) (n : Int) (m a : Nat) (w : World) (h : IsSpace w s L S) (hn : blockZ n = m) (hm : 1 ≤ m) (ha : a + m ≤ S.W.length) (hS1 : S1.W = S.W)
    (hp : ∀ w1, Upd [] w w1 → Calls Try.prog 70 #[.pointer (some ⟨s, 0, none⟩), .int .i64 n] w1 fun e w' => e = .returned (.tuple #[.int .i64 a, .int .i64 0]) ∧ After s L S S1 w1 w') :
    Calls Try.prog 57 #[.pointer (some ⟨s, 0, none⟩), .int .i64 n] w fun e w' => e = .returned (.tuple #[.int .i64 a, .int .i64 0]) ∧ After s L S ⟨filledAt S1.W a m, S1.pg⟩ w w' := by
  have hbc := fun w => block_calls n w
  rw [hn] at hbc
  have HBC := Lib.hid hbc
  have HPL := Lib.hid hp
  have H := Lib.hid h
  have HL : Hid (S.W.length ≤ 16384) := Lib.hid h.len
  have HA := Lib.hid ha
  have HW := Lib.hid hS1
  have hm0 : ((m : Int) == 0) = false := by simp; omega
  have haa : a ≤ 16384 := by have := HL.out; omega
  have hmm : m ≤ 16384 := by have := HL.out; omega
  clear hbc hn hp h ha hS1
  go_enter Try.func57, Try.ntmps57
  go_wp2_with fail
  refine (HBC.out _).mono ?_
  rintro e w1 ⟨rfl, hb⟩
  have HU : Hid (Upd [] w w1) := Lib.hid (Upd.of_below hb)
  clear hb
  go_wp2_with fail
  refine (HPL.out _ HU.out).mono ?_
  rintro e w2 ⟨rfl, hA⟩
  obtain ⟨L1, hA1⟩ := After.behind HU.out hA
  have HS := Lib.hid hA1.1
  have HA1 := Lib.hid hA1
  clear hA hA1
  have c0 : w2.cell? ⟨s, 0, none⟩ = some (.pointer (some ⟨L1.pa, 0, none⟩)) := HS.out.box.cell 0
  go_wp2_with fail
  refine (fill_at L1.pa L1.ga S1.W a m _ HS.out.arena (by rw [HW.out]; exact HL.out) (by omega) (by omega) (by rw [HW.out]; have := HA.out; omega)).mono ?_
  rintro e w3 ⟨rfl, hF, hu⟩
  rw [Int.toNat_natCast, Int.toNat_natCast] at hF
  have HF := Lib.hid hF
  have HU3 := Lib.hid hu
  clear hF hu
  go_wp2_with fail
  go_ret2
  exact ⟨rfl, After.step HA1.out (HS.out.words HF.out (filledAt_length _ _ _ (by rw [HW.out]; exact HA.out)) HU3.out)⟩

def AllocVal (x : Sp × Int × Int) : Value := .tuple #[.int .i64 x.2.1, .int .i64 x.2.2]
theorem class_small {n : Int} (h : ¬ classZ n < 0) : ∃ c : Nat, classZ n = c ∧ c < 5 ∧ blockZ n = (wordsOf c : Nat) := by
  have hr := class_range n
  obtain ⟨c, hc⟩ : ∃ c : Nat, classZ n = c := ⟨(classZ n).toNat, by omega⟩
  refine ⟨c, hc, by omega, ?_⟩
  unfold blockZ
  rw [if_pos (by omega), hc, Int.toNat_natCast]
  exact sizes_at (by omega)
theorem run_nat {l : List Bool} {i k : Int} : runZ l i k = -1 ∨ ∃ p : Nat, runZ l i k = p := by
  by_cases hk : 1 ≤ k
  · rcases isRun_runZ l i k hk with ⟨h, _⟩ | ⟨p, h, _⟩
    · exact .inl h
    · exact .inr ⟨p, h⟩
  · exact .inl (runZ_no (by omega))

/-- What a new block of a class makes of a space. -/
theorem alloc_open {S : Sp} {n : Int} {c p i : Nat} {l : List Bool} (hc : classZ n = c) (hb : blockZ n ≠ 0) (ho : openZ S.pg c = p) (hat : atP S.pg p = .small c l) (hi : nextZ l false 0 = i) :
    S.alloc n = (⟨filledAt S.W (p * 64 + i * wordsOf c) (wordsOf c), S.pg.set p (.small c (l.set i true))⟩, (p : Int) * 64 + (i : Int) * (wordsOf c : Nat), 0) := by
  unfold Sp.alloc
  rw [if_neg hb, hc, if_neg (by omega), Int.toNat_natCast, ho, if_pos (by omega), Int.toNat_natCast, hat]
  show (_ : Sp × Int × Int) = _
  simp only [listOf, hi, Int.toNat_natCast]
theorem alloc_new {S : Sp} {n : Int} {c p : Nat} (hc : classZ n = c) (hb : blockZ n ≠ 0) (ho : openZ S.pg c = -1) (hr : runZ (bitsOf S.pg) 0 1 = p) :
    S.alloc n = (⟨filledAt S.W (p * 64) (wordsOf c), S.pg.set p (.small c (firstOne (roomOf c)))⟩, (p : Int) * 64, 0) := by
  unfold Sp.alloc
  rw [if_neg hb, hc, if_neg (by omega), Int.toNat_natCast, ho, if_neg (by omega), hr, if_neg (by omega), Int.toNat_natCast]
theorem alloc_pages {S : Sp} {n : Int} {k p : Nat} (hc : classZ n < 0) (hb : blockZ n ≠ 0) (hk : pagesZ n = k) (hr : runZ (bitsOf S.pg) 0 k = p) :
    S.alloc n = (⟨filledAt S.W (p * 64) (k * 64), putLarge S.pg p k⟩, (p : Int) * 64, 0) := by
  unfold Sp.alloc
  rw [if_neg hb, if_pos hc, hk, hr, if_neg (by omega), Int.toNat_natCast, Int.toNat_natCast]

theorem alloc_calls (s : Nat) (L : Lay) (S : Sp) (n : Int) (w : World) (h : IsSpace w s L S) :
    Calls Try.prog 57 #[.pointer (some ⟨s, 0, none⟩), .int .i64 n] w fun e w' => e = .returned (AllocVal (S.alloc n)) ∧ After s L S (S.alloc n).1 w w' := by
  have hlen := h.wf.len
  by_cases hb : blockZ n = 0
  · have e : S.alloc n = (S, 0, 1) := if_pos hb
    rw [e]
    exact (alloc_arg s n w hb).mono fun e w' ⟨h1, h2⟩ => ⟨h1, .same h h2⟩
  by_cases hc : classZ n < 0
  · obtain ⟨k, hk, hk1, hk2, hbk, _, _⟩ := pages_nat hb hc
    rcases run_nat (l := bitsOf S.pg) (i := 0) (k := k) with hr | ⟨p, hr⟩
    · have e : S.alloc n = (S, 0, 3) := by
        unfold Sp.alloc
        rw [if_neg hb, if_pos hc, hk, hr, if_pos (by omega)]
      rw [e]
      exact (alloc_full s n (k * 64) w (by rw [hbk]; omega) (by omega) fun w1 hu => place_large_full s L S n k w1 (h.upd0 hu) hc hk hk1 hk2 hr).mono fun e w' ⟨h1, h2⟩ => ⟨h1, .same h h2⟩
    · rw [alloc_pages hc hb hk hr]
      have hp := (run_at hk1 hr).1
      refine (alloc_done s L S ⟨S.W, putLarge S.pg p k⟩ n (k * 64) (p * 64) w h (by rw [hbk]; omega) (by omega) (by omega) rfl fun w1 hu => ?_).mono fun e w' ⟨h1, h2⟩ => ⟨?_, h2⟩
      · refine (place_large s L S n k p w1 (h.upd0 hu) hc hk hk1 hk2 hr).mono fun e w' ⟨h1, h2⟩ => ⟨?_, h2⟩
        rw [h1, Int.natCast_mul]; rfl
      · rw [h1, Int.natCast_mul]; rfl
  · obtain ⟨c, hcc, hc5, hbw⟩ := class_small hc
    have hwp := words_pos hc5
    have main : ∀ (p i : Nat) (l : List Bool) (S1 : Sp), First S c p l S1 → nextZ l false 0 = i → S.alloc n = (⟨filledAt S1.W (p * 64 + i * wordsOf c) (wordsOf c), S1.pg.set p (.small c (l.set i true))⟩, (p : Int) * 64 + (i : Int) * (wordsOf c : Nat), 0) → p < S.pg.length → i < roomOf c →
        Calls Try.prog 57 #[.pointer (some ⟨s, 0, none⟩), .int .i64 n] w fun e w' => e = .returned (AllocVal (S.alloc n)) ∧ After s L S (S.alloc n).1 w w' := fun p i l S1 hF hi e hp hir => by
      rw [e]
      have hfit := block_fits hc5 hir
      have hcast : ((p * 64 + i * wordsOf c : Nat) : Int) = (p : Int) * 64 + (i : Int) * (wordsOf c : Nat) := by rw [Int.natCast_add, Int.natCast_mul, Int.natCast_mul]; rfl
      refine (alloc_done s L S ⟨S1.W, S1.pg.set p (.small c (l.set i true))⟩ n (wordsOf c) (p * 64 + i * wordsOf c) w h hbw (by omega) (by omega) hF.words fun w1 hu => ?_).mono fun e w' ⟨h1, h2⟩ => ⟨?_, h2⟩
      · refine (place_small s L S S1 n c p i l w1 (h.upd0 hu) hcc hc5 hF hi).mono fun e w' ⟨h1, h2⟩ => ⟨?_, h2⟩
        rw [h1, hcast]
      · rw [h1, hcast]; rfl
    rcases openZ_cases S.pg c with ⟨ho, _⟩ | ⟨p, ho, hp, hopen, _⟩
    · rcases run_nat (l := bitsOf S.pg) (i := 0) (k := 1) with hr | ⟨p, hr⟩
      · have e : S.alloc n = (S, 0, 3) := by
          unfold Sp.alloc
          rw [if_neg hb, hcc, if_neg (by omega), Int.toNat_natCast, ho, if_neg (by omega), hr, if_pos (by omega)]
        rw [e]
        exact (alloc_full s n (wordsOf c) w hbw (by omega) fun w1 hu => place_small_full s L S n c w1 (h.upd0 hu) hcc hc5 ho hr).mono fun e w' ⟨h1, h2⟩ => ⟨h1, .same h h2⟩
      · have hrm := room_pos hc5
        have hp := (run_at (k := 1) (by omega) hr).1
        refine main p 0 (List.replicate (roomOf c) false) ⟨S.W, S.pg.set p (.small c (List.replicate (roomOf c) false))⟩ (.inr ⟨ho, hr, rfl, rfl⟩) (rep_false (by omega) (by omega)) ?_ (by omega) (by omega)
        rw [alloc_new hcc hb ho hr]
        simp [firstOne, List.set_set]
    · obtain ⟨l, hat, hcnt⟩ := open_small hopen
      obtain ⟨i, hi, hil, _⟩ := next_of_count hcnt
      have hll := (h.wf.small p c l hat).2
      exact main p i l S (.inl ⟨ho, rfl, hat⟩) hi (alloc_open hcc hb ho hat hi) hp (by omega)
end Go.Proofs.Ytendjhobemlhoaa
