/- The walk of SpaceOrder: at every input the law returns true, and nothing that was there has turned. -/
import Derived.Test.YtpichhnihppicaaSpaceZeros
namespace Go.Proofs.Ytpichhnihppicaa
open Go Go.RowKit

/-- The pages behind q full pages of a class and r blocks more, behind a page X. -/
def ordPg (X : Pst) (c q r j : Nat) : Pst :=
  if j = 0 then .zero else if j = 1 then X else if j < 2 + q then .small c (List.replicate (roomOf c) true) else if j = 2 + q ∧ 0 < r then .small c (fillB (roomOf c) r) else .free
theorem fill_all (n : Nat) : fillB n n = List.replicate n true := by simp [fillB]
theorem fill_one {n : Nat} (h : 1 ≤ n) : firstOne n = fillB n 1 := by unfold firstOne; rw [← fillB_zero, fillB_set (by omega)]
theorem order_step {S : Sp} {X : Pst} {c q r : Nat} {n : Int} (hc : c < 5) (hn : classZ n = c) (hX : isOpen c X = false) (hX2 : X ≠ .free) (hl : S.pg.length = 20) (hq : q ≤ 10) (hr : r < roomOf c) (hat : ∀ j, atP S.pg j = ordPg X c q r j) :
    ∃ S', S.alloc n = (S', ((2 + q : Nat) : Int) * 64 + (r : Int) * (wordsOf c : Nat), 0) ∧ S'.pg.length = 20 ∧ ∀ j, atP S'.pg j = ordPg X c (if r + 1 = roomOf c then q + 1 else q) (if r + 1 = roomOf c then 0 else r + 1) j := by
  have hrm := room_pos hc
  have hwp := words_pos hc
  have hb : blockZ n ≠ 0 := by
    unfold blockZ
    rw [if_pos (by omega), hn, Int.toNat_natCast, sizes_at hc]; omega
  have hlow : ∀ j, j < 2 + q → isOpen c (atP S.pg j) = false ∧ atP S.pg j ≠ .free := fun j hj => by
    rw [hat]
    unfold ordPg
    by_cases h0 : j = 0
    · rw [if_pos h0]; exact ⟨rfl, by simp⟩
    · rw [if_neg h0]
      by_cases h1 : j = 1
      · rw [if_pos h1]; exact ⟨hX, hX2⟩
      · rw [if_neg h1, if_pos hj]
        refine ⟨?_, by simp⟩
        simp [isOpen, countB]
  by_cases hr0 : r = 0
  · subst hr0
    have hfree : ∀ j, 2 + q ≤ j → atP S.pg j = .free := fun j hj => by
      rw [hat]; unfold ordPg
      rw [if_neg (by omega), if_neg (by omega), if_neg (by omega), if_neg (by omega)]
    have ho : openZ S.pg c = -1 := openZ_miss fun j _ => by
      by_cases hj : j < 2 + q
      · exact (hlow j hj).1
      · rw [hfree j (by omega)]; rfl
    have hrun : runZ (bitsOf S.pg) 0 1 = ((2 + q : Nat) : Int) := run_first (k := 1) (by omega) (by omega) (fun j h1 _ => hfree j h1) (fun b hb => ⟨b, by omega, by omega, (hlow b hb).2⟩)
    have hal := alloc_new hn hb ho hrun
    rw [show ((2 + q : Nat) : Int) * 64 = ((2 + q : Nat) : Int) * 64 + ((0 : Nat) : Int) * (wordsOf c : Nat) from by omega] at hal
    refine ⟨_, hal, by simp [hl], fun j => ?_⟩
    · show atP (S.pg.set (2 + q) _) j = _
      rw [atP_set _ (by omega), fill_one (by omega), if_neg (show ¬ 0 + 1 = roomOf c by omega), if_neg (show ¬ 0 + 1 = roomOf c by omega)]
      by_cases e : j = 2 + q
      · rw [if_pos e]; unfold ordPg
        rw [if_neg (by omega), if_neg (by omega), if_neg (by omega), if_pos ⟨e, by omega⟩]
      · rw [if_neg e, hat]; unfold ordPg
        split
        · rfl
        · split
          · rfl
          · split
            · rfl
            · rw [if_neg (by omega), if_neg (by omega)]
  · have hp : atP S.pg (2 + q) = .small c (fillB (roomOf c) r) := by
      rw [hat]; unfold ordPg
      rw [if_neg (by omega), if_neg (by omega), if_neg (by omega), if_pos ⟨rfl, by omega⟩]
    have hopen : isOpen c (atP S.pg (2 + q)) = true := by
      rw [hp]
      simp only [isOpen, fillB_count, fillB_length (show r ≤ roomOf c by omega)]
      simp; omega
    have ho := openZ_hit hopen fun j hj => (hlow j hj).1
    refine ⟨_, alloc_open hn hb ho hp (fillB_next hr), by simp [hl], fun j => ?_⟩
    show atP (S.pg.set (2 + q) _) j = _
    rw [atP_set _ (by omega), fillB_set hr]
    by_cases hfull : r + 1 = roomOf c
    · rw [if_pos hfull, if_pos hfull, hfull, fill_all]
      by_cases e : j = 2 + q
      · rw [if_pos e]; unfold ordPg
        rw [if_neg (by omega), if_neg (by omega), if_pos (by omega)]
      · rw [if_neg e, hat]; unfold ordPg
        split
        · rfl
        · split
          · rfl
          · by_cases e2 : j < 2 + q
            · rw [if_pos e2, if_pos (by omega)]
            · rw [if_neg e2, if_neg (by omega), if_neg (by omega), if_neg (by omega)]
    · rw [if_neg hfull, if_neg hfull]
      by_cases e : j = 2 + q
      · rw [if_pos e]; unfold ordPg
        rw [if_neg (by omega), if_neg (by omega), if_neg (by omega), if_pos ⟨e, by omega⟩]
      · rw [if_neg e, hat]; unfold ordPg
        split
        · rfl
        · split
          · rfl
          · split
            · rfl
            · rw [if_neg (by omega), if_neg (by omega)]
theorem order_at {S : Sp} {X : Pst} {c i m W : Nat} {n : Int} (hc : c < 5) (hm : roomOf c = m) (hW : wordsOf c = W) (hn : classZ n = c) (hX : isOpen c X = false) (hX2 : X ≠ .free) (hl : S.pg.length = 20) (hq : i / m ≤ 10) (hat : ∀ j, atP S.pg j = ordPg X c (i / m) (i % m) j) :
    ∃ S', S.alloc n = (S', ((2 + i / m : Nat) : Int) * 64 + ((i % m : Nat) : Int) * (W : Int), 0) ∧ S'.pg.length = 20 ∧ ∀ j, atP S'.pg j = ordPg X c ((i + 1) / m) ((i + 1) % m) j := by
  have hrm := room_pos hc
  rw [hm] at hrm
  obtain ⟨S', h1, h2, h3⟩ := order_step hc hn hX hX2 hl hq (r := i % m) (by rw [hm]; exact Nat.mod_lt _ (by omega)) hat
  rw [hm] at h3
  rw [hW] at h1
  refine ⟨S', h1, h2, fun j => ?_⟩
  rw [h3]
  have hdm := Nat.div_add_mod i m
  have hlt := Nat.mod_lt i (show 0 < m by omega)
  by_cases hf : i % m + 1 = m
  · rw [if_pos hf, if_pos hf]
    have e : i + 1 = m * (i / m + 1) := by rw [Nat.mul_add, Nat.mul_one]; omega
    rw [e, Nat.mul_div_cancel_left _ (by omega), Nat.mul_mod_right]
  · rw [if_neg hf, if_neg hf]
    have e : i + 1 = (i % m + 1) + m * (i / m) := by omega
    rw [e, Nat.add_mul_div_left _ _ (by omega), Nat.add_mul_mod_self_left, Nat.div_eq_of_lt (show i % m + 1 < m by omega), Nat.mod_eq_of_lt (show i % m + 1 < m by omega), Nat.zero_add]

theorem newSp_length (n : Nat) : (newSp n).pg.length = n := by simp [newSp]
/-- The space behind the block of another class. -/
theorem order_start_large : ∃ S1, (newSp 20).alloc 64 = (S1, 64, 0) ∧ S1.pg.length = 20 ∧ ∀ c j, atP S1.pg j = ordPg (.first 1) c 0 0 j := by
  have hw : (newSp 20).WF := newSp_wf (by omega) (by omega)
  have hb : blockZ 64 ≠ 0 := by decide
  have p0 : ∀ j, atP (newSp 20).pg j = if j = 0 then .zero else .free := fun j => new_at 20 j (by omega)
  have hr := run_first (pg := (newSp 20).pg) (p := 1) (k := 1) (by omega) (by rw [newSp_length]; omega) (fun j h1 _ => by rw [p0, if_neg (by omega)]) (fun b hb => ⟨0, by omega, by omega, by rw [p0, if_pos rfl]; simp⟩)
  refine ⟨_, alloc_pages (k := 1) (by decide) hb (by decide) hr, by rw [putLarge_length]; exact newSp_length 20, fun c j => ?_⟩
  show atP (putLarge _ _ _) j = _
  rw [atP_large (by rw [newSp_length]; omega) (by omega), p0]
  unfold ordPg
  by_cases h0 : j = 0
  · subst h0; rfl
  · by_cases h1 : j = 1
    · subst h1; rfl
    · rw [if_neg h1, if_neg (by omega), if_neg h0, if_neg h0, if_neg h1, if_neg (by omega), if_neg (by omega)]
theorem order_start_small : ∃ S1, (newSp 20).alloc 3 = (S1, 64, 0) ∧ S1.pg.length = 20 ∧ ∀ c j, atP S1.pg j = ordPg (.small 1 (firstOne 16)) c 0 0 j := by
  have hb : blockZ 3 ≠ 0 := by decide
  have p0 : ∀ j, atP (newSp 20).pg j = if j = 0 then .zero else .free := fun j => new_at 20 j (by omega)
  have hr := run_first (pg := (newSp 20).pg) (p := 1) (k := 1) (by omega) (by rw [newSp_length]; omega) (fun j h1 _ => by rw [p0, if_neg (by omega)]) (fun b hb => ⟨0, by omega, by omega, by rw [p0, if_pos rfl]; simp⟩)
  refine ⟨_, alloc_new (c := 1) (by decide) hb (openZ_miss fun j _ => by rw [p0]; split <;> rfl) hr, by rw [List.length_set]; exact newSp_length 20, fun c j => ?_⟩
  show atP ((newSp 20).pg.set 1 _) j = _
  rw [atP_set _ (by rw [newSp_length]; omega), p0]
  unfold ordPg
  by_cases h0 : j = 0
  · subst h0; rfl
  · by_cases h1 : j = 1
    · subst h1; rfl
    · rw [if_neg h1, if_neg h0, if_neg h0, if_neg h1, if_neg (by omega), if_neg (by omega)]


set_option maxRecDepth 100000 in
set_option maxHeartbeats 6400000 in
theorem order6_0 (n many x : Nat) (w : World) (hn : n ≤ 255) (hm : many ≤ 255) (hx : (n : Int) % 32 = x) (h0 : 0 ≤ x) (h1 : x < 2) : Calls Try.prog 3 #[.int .u8 n, .int .u8 many] w fun e w' => e = .returned (.bool true) ∧ Below w.heap.size w w' := by
  obtain ⟨S1, hal, hl1, hat1⟩ := order_start_small
  have hat1 := hat1 0
  have hcz : classZ (1 + (x : Int)) = (0 : Nat) := by
    unfold classZ
    rw [if_neg (by omega)]
    repeat' split
    all_goals omega
  have HX := Lib.hid hx
  have HAL := Lib.hid hal
  have HCZ := Lib.hid hcz
  have HS1 := Lib.hid (And.intro hl1 hat1)
  obtain ⟨t, ht⟩ : ∃ t : Nat, (many : Int) % 96 = t := ⟨many % 96, by omega⟩
  have htl : t < 96 := by omega
  have HT := Lib.hid ht
  clear hx hal hcz hl1 hat1 ht
  go_enter Try.func3, Try.ntmps3
  go_wp2_with fail
  refine (mine_new 20 w _ (by omega) (by omega) (Upd.refl [] w)).mono ?_
  rintro e w1 ⟨s, rfl, hm⟩
  obtain ⟨L, hm⟩ := hm
  have HM0 := Lib.hid (Exists.intro L hm : Mine w w1 s (newSp 20))
  have c0 := hm.c0
  have c1 := hm.c1
  clear hm
  go_wp2_with fail
  refine (err0 _).mono ?_
  rintro e w' ⟨rfl, rfl⟩
  go_wp2_with fail
  simp only [HX.out]
  clear c0 c1
  go_loopg [8] 1 (fun gk b wr => ∃ k : Nat, gk = 1 - k ∧ (k = 0 ∧ b = .int .i64 2) ∧ w1 = wr)
  case atStart => exact ⟨0, rfl, ⟨rfl, rfl⟩, rfl⟩
  case round =>
    obtain ⟨k, rfl, hk, rfl⟩ := hrel
    rcases hk with ⟨rfl, rfl⟩
    · go_wp2_with fail
      refine (mine_alloc w s (newSp 20) S1 3 64 0 _ HM0.out HAL.out).mono ?_
      rintro e w2 ⟨rfl, hm⟩
      have HM1 := Lib.hid hm
      clear hm
      go_wp2_with fail
      refine (err0 _).mono ?_
      rintro e w' ⟨rfl, rfl⟩
      go_wp2_with fail
      go_loopg [13] (t + 1) (fun gk v wr => ∃ (i : Nat) (S : Sp), gk = t + 1 - i ∧ i ≤ t + 1 ∧ v = .int .i64 i ∧ Hid (Mine w wr s S) ∧ Hid (S.pg.length = 20 ∧ ∀ j, atP S.pg j = ordPg (.small 1 (firstOne 16)) 0 (i / 32) (i % 32) j))
      case atStart => exact ⟨0, S1, rfl, by omega, rfl, HM1, HS1⟩
      case round =>
        obtain ⟨i, S, rfl, hi, rfl, HMS, HS⟩ := hrel
        by_cases hlt : i < t + 1
        · have hit : (i : Int) < (many : Int) % 96 + 1 := by have := HT.out; omega
          obtain ⟨S', ha, hl', hat'⟩ := order_at (S := S) (c := 0) (i := i) (m := 32) (W := 2) (by omega) rfl rfl HCZ.out rfl (by simp) HS.out.1 (by omega) HS.out.2
          have HA : Hid (S.alloc (1 + (x : Int)) = (S', 128 + 64 * ((i : Int) / 32) + 2 * ((i : Int) % 32), 0)) := Lib.hid (by rw [ha, show ((2 + i / 32 : Nat) : Int) * 64 + ((i % 32 : Nat) : Int) * ((2 : Nat) : Int) = 128 + 64 * ((i : Int) / 32) + 2 * ((i : Int) % 32) from by omega])
          have HS' := Lib.hid (And.intro hl' hat')
          have hi96 : i < 97 := by omega
          clear ha hl' hat'
          go_wp2_with fail
          refine (mine_alloc w s S S' (1 + (x : Int)) _ 0 _ HMS.out HA.out).mono ?_
          rintro e w4 ⟨rfl, hm⟩
          have HM4 := Lib.hid hm
          clear hm
          go_wp2_with fail
          go_quiet ((go_at_call 12; exact Calls.quiet_of_same ((err0 _).mono fun e w' h => ⟨h.1, h.2.symm⟩)))
          go_wp2_with fail
          go_roundg (t + 1 - (i + 1))
          case measure => omega
          case rel => exact ⟨i + 1, S', rfl, by omega, by go_num, Lib.hid (HM4.out.drewN nq), HS'⟩
        · obtain rfl : i = t + 1 := by omega
          have hit : ¬ ((t + 1 : Nat) : Int) < (many : Int) % 96 + 1 := by have := HT.out; omega
          go_wp2_with fail
          refine (mine_awake w _ s S HMS.out).mono ?_
          rintro e w8 ⟨rfl, hm⟩
          have HM7 := Lib.hid hm
          clear hm
          go_wp2_with fail
          go_ret
          exact ⟨rfl, HM7.out.world.below⟩
set_option maxRecDepth 100000 in
set_option maxHeartbeats 6400000 in
theorem order6_1 (n many x : Nat) (w : World) (hn : n ≤ 255) (hm : many ≤ 255) (hx : (n : Int) % 32 = x) (h0 : 2 ≤ x) (h1 : x < 4) : Calls Try.prog 3 #[.int .u8 n, .int .u8 many] w fun e w' => e = .returned (.bool true) ∧ Below w.heap.size w w' := by
  obtain ⟨S1, hal, hl1, hat1⟩ := order_start_large
  have hat1 := hat1 1
  have hcz : classZ (1 + (x : Int)) = (1 : Nat) := by
    unfold classZ
    rw [if_neg (by omega)]
    repeat' split
    all_goals omega
  have HX := Lib.hid hx
  have HAL := Lib.hid hal
  have HCZ := Lib.hid hcz
  have HS1 := Lib.hid (And.intro hl1 hat1)
  obtain ⟨t, ht⟩ : ∃ t : Nat, (many : Int) % 48 = t := ⟨many % 48, by omega⟩
  have htl : t < 48 := by omega
  have HT := Lib.hid ht
  clear hx hal hcz hl1 hat1 ht
  go_enter Try.func3, Try.ntmps3
  go_wp2_with fail
  refine (mine_new 20 w _ (by omega) (by omega) (Upd.refl [] w)).mono ?_
  rintro e w1 ⟨s, rfl, hm⟩
  obtain ⟨L, hm⟩ := hm
  have HM0 := Lib.hid (Exists.intro L hm : Mine w w1 s (newSp 20))
  have c0 := hm.c0
  have c1 := hm.c1
  clear hm
  go_wp2_with fail
  refine (err0 _).mono ?_
  rintro e w' ⟨rfl, rfl⟩
  go_wp2_with fail
  simp only [HX.out]
  clear c0 c1
  go_loopg [8] 2 (fun gk b wr => ∃ k : Nat, gk = 2 - k ∧ (k = 0 ∧ b = .int .i64 2 ∨ k = 1 ∧ b = .int .i64 4) ∧ w1 = wr)
  case atStart => exact ⟨0, rfl, .inl ⟨rfl, rfl⟩, rfl⟩
  case round =>
    obtain ⟨k, rfl, hk, rfl⟩ := hrel
    rcases hk with ⟨rfl, rfl⟩ | ⟨rfl, rfl⟩
    · go_wp2_with fail
      go_roundg 1
      case measure => omega
      case rel => exact ⟨1, rfl, (.inr ⟨rfl, rfl⟩), rfl⟩
    · go_wp2_with fail
      refine (mine_alloc w s (newSp 20) S1 64 64 0 _ HM0.out HAL.out).mono ?_
      rintro e w2 ⟨rfl, hm⟩
      have HM1 := Lib.hid hm
      clear hm
      go_wp2_with fail
      refine (err0 _).mono ?_
      rintro e w' ⟨rfl, rfl⟩
      go_wp2_with fail
      go_loopg [13] (t + 1) (fun gk v wr => ∃ (i : Nat) (S : Sp), gk = t + 1 - i ∧ i ≤ t + 1 ∧ v = .int .i64 i ∧ Hid (Mine w wr s S) ∧ Hid (S.pg.length = 20 ∧ ∀ j, atP S.pg j = ordPg (.first 1) 1 (i / 16) (i % 16) j))
      case atStart => exact ⟨0, S1, rfl, by omega, rfl, HM1, HS1⟩
      case round =>
        obtain ⟨i, S, rfl, hi, rfl, HMS, HS⟩ := hrel
        by_cases hlt : i < t + 1
        · have hit : (i : Int) < (many : Int) % 48 + 1 := by have := HT.out; omega
          obtain ⟨S', ha, hl', hat'⟩ := order_at (S := S) (c := 1) (i := i) (m := 16) (W := 4) (by omega) rfl rfl HCZ.out rfl (by simp) HS.out.1 (by omega) HS.out.2
          have HA : Hid (S.alloc (1 + (x : Int)) = (S', 128 + 64 * ((i : Int) / 16) + 4 * ((i : Int) % 16), 0)) := Lib.hid (by rw [ha, show ((2 + i / 16 : Nat) : Int) * 64 + ((i % 16 : Nat) : Int) * ((4 : Nat) : Int) = 128 + 64 * ((i : Int) / 16) + 4 * ((i : Int) % 16) from by omega])
          have HS' := Lib.hid (And.intro hl' hat')
          have hi96 : i < 49 := by omega
          clear ha hl' hat'
          go_wp2_with fail
          refine (mine_alloc w s S S' (1 + (x : Int)) _ 0 _ HMS.out HA.out).mono ?_
          rintro e w4 ⟨rfl, hm⟩
          have HM4 := Lib.hid hm
          clear hm
          go_wp2_with fail
          go_quiet ((go_at_call 12; exact Calls.quiet_of_same ((err0 _).mono fun e w' h => ⟨h.1, h.2.symm⟩)))
          go_wp2_with fail
          go_roundg (t + 1 - (i + 1))
          case measure => omega
          case rel => exact ⟨i + 1, S', rfl, by omega, by go_num, Lib.hid (HM4.out.drewN nq), HS'⟩
        · obtain rfl : i = t + 1 := by omega
          have hit : ¬ ((t + 1 : Nat) : Int) < (many : Int) % 48 + 1 := by have := HT.out; omega
          go_wp2_with fail
          refine (mine_awake w _ s S HMS.out).mono ?_
          rintro e w8 ⟨rfl, hm⟩
          have HM7 := Lib.hid hm
          clear hm
          go_wp2_with fail
          go_ret
          exact ⟨rfl, HM7.out.world.below⟩
set_option maxRecDepth 100000 in
set_option maxHeartbeats 6400000 in
theorem order6_2 (n many x : Nat) (w : World) (hn : n ≤ 255) (hm : many ≤ 255) (hx : (n : Int) % 32 = x) (h0 : 4 ≤ x) (h1 : x < 8) : Calls Try.prog 3 #[.int .u8 n, .int .u8 many] w fun e w' => e = .returned (.bool true) ∧ Below w.heap.size w w' := by
  obtain ⟨S1, hal, hl1, hat1⟩ := order_start_large
  have hat1 := hat1 2
  have hcz : classZ (1 + (x : Int)) = (2 : Nat) := by
    unfold classZ
    rw [if_neg (by omega)]
    repeat' split
    all_goals omega
  have HX := Lib.hid hx
  have HAL := Lib.hid hal
  have HCZ := Lib.hid hcz
  have HS1 := Lib.hid (And.intro hl1 hat1)
  obtain ⟨t, ht⟩ : ∃ t : Nat, (many : Int) % 24 = t := ⟨many % 24, by omega⟩
  have htl : t < 24 := by omega
  have HT := Lib.hid ht
  clear hx hal hcz hl1 hat1 ht
  go_enter Try.func3, Try.ntmps3
  go_wp2_with fail
  refine (mine_new 20 w _ (by omega) (by omega) (Upd.refl [] w)).mono ?_
  rintro e w1 ⟨s, rfl, hm⟩
  obtain ⟨L, hm⟩ := hm
  have HM0 := Lib.hid (Exists.intro L hm : Mine w w1 s (newSp 20))
  have c0 := hm.c0
  have c1 := hm.c1
  clear hm
  go_wp2_with fail
  refine (err0 _).mono ?_
  rintro e w' ⟨rfl, rfl⟩
  go_wp2_with fail
  simp only [HX.out]
  clear c0 c1
  go_loopg [8] 3 (fun gk b wr => ∃ k : Nat, gk = 3 - k ∧ (k = 0 ∧ b = .int .i64 2 ∨ k = 1 ∧ b = .int .i64 4 ∨ k = 2 ∧ b = .int .i64 8) ∧ w1 = wr)
  case atStart => exact ⟨0, rfl, .inl ⟨rfl, rfl⟩, rfl⟩
  case round =>
    obtain ⟨k, rfl, hk, rfl⟩ := hrel
    rcases hk with ⟨rfl, rfl⟩ | ⟨rfl, rfl⟩ | ⟨rfl, rfl⟩
    · go_wp2_with fail
      go_roundg 2
      case measure => omega
      case rel => exact ⟨1, rfl, (.inr (.inl ⟨rfl, rfl⟩)), rfl⟩
    · go_wp2_with fail
      go_roundg 1
      case measure => omega
      case rel => exact ⟨2, rfl, (.inr (.inr ⟨rfl, rfl⟩)), rfl⟩
    · go_wp2_with fail
      refine (mine_alloc w s (newSp 20) S1 64 64 0 _ HM0.out HAL.out).mono ?_
      rintro e w2 ⟨rfl, hm⟩
      have HM1 := Lib.hid hm
      clear hm
      go_wp2_with fail
      refine (err0 _).mono ?_
      rintro e w' ⟨rfl, rfl⟩
      go_wp2_with fail
      go_loopg [13] (t + 1) (fun gk v wr => ∃ (i : Nat) (S : Sp), gk = t + 1 - i ∧ i ≤ t + 1 ∧ v = .int .i64 i ∧ Hid (Mine w wr s S) ∧ Hid (S.pg.length = 20 ∧ ∀ j, atP S.pg j = ordPg (.first 1) 2 (i / 8) (i % 8) j))
      case atStart => exact ⟨0, S1, rfl, by omega, rfl, HM1, HS1⟩
      case round =>
        obtain ⟨i, S, rfl, hi, rfl, HMS, HS⟩ := hrel
        by_cases hlt : i < t + 1
        · have hit : (i : Int) < (many : Int) % 24 + 1 := by have := HT.out; omega
          obtain ⟨S', ha, hl', hat'⟩ := order_at (S := S) (c := 2) (i := i) (m := 8) (W := 8) (by omega) rfl rfl HCZ.out rfl (by simp) HS.out.1 (by omega) HS.out.2
          have HA : Hid (S.alloc (1 + (x : Int)) = (S', 128 + 64 * ((i : Int) / 8) + 8 * ((i : Int) % 8), 0)) := Lib.hid (by rw [ha, show ((2 + i / 8 : Nat) : Int) * 64 + ((i % 8 : Nat) : Int) * ((8 : Nat) : Int) = 128 + 64 * ((i : Int) / 8) + 8 * ((i : Int) % 8) from by omega])
          have HS' := Lib.hid (And.intro hl' hat')
          have hi96 : i < 25 := by omega
          clear ha hl' hat'
          go_wp2_with fail
          refine (mine_alloc w s S S' (1 + (x : Int)) _ 0 _ HMS.out HA.out).mono ?_
          rintro e w4 ⟨rfl, hm⟩
          have HM4 := Lib.hid hm
          clear hm
          go_wp2_with fail
          go_quiet ((go_at_call 12; exact Calls.quiet_of_same ((err0 _).mono fun e w' h => ⟨h.1, h.2.symm⟩)))
          go_wp2_with fail
          go_roundg (t + 1 - (i + 1))
          case measure => omega
          case rel => exact ⟨i + 1, S', rfl, by omega, by go_num, Lib.hid (HM4.out.drewN nq), HS'⟩
        · obtain rfl : i = t + 1 := by omega
          have hit : ¬ ((t + 1 : Nat) : Int) < (many : Int) % 24 + 1 := by have := HT.out; omega
          go_wp2_with fail
          refine (mine_awake w _ s S HMS.out).mono ?_
          rintro e w8 ⟨rfl, hm⟩
          have HM7 := Lib.hid hm
          clear hm
          go_wp2_with fail
          go_ret
          exact ⟨rfl, HM7.out.world.below⟩
set_option maxRecDepth 100000 in
set_option maxHeartbeats 6400000 in
theorem order6_3 (n many x : Nat) (w : World) (hn : n ≤ 255) (hm : many ≤ 255) (hx : (n : Int) % 32 = x) (h0 : 8 ≤ x) (h1 : x < 16) : Calls Try.prog 3 #[.int .u8 n, .int .u8 many] w fun e w' => e = .returned (.bool true) ∧ Below w.heap.size w w' := by
  obtain ⟨S1, hal, hl1, hat1⟩ := order_start_large
  have hat1 := hat1 3
  have hcz : classZ (1 + (x : Int)) = (3 : Nat) := by
    unfold classZ
    rw [if_neg (by omega)]
    repeat' split
    all_goals omega
  have HX := Lib.hid hx
  have HAL := Lib.hid hal
  have HCZ := Lib.hid hcz
  have HS1 := Lib.hid (And.intro hl1 hat1)
  obtain ⟨t, ht⟩ : ∃ t : Nat, (many : Int) % 12 = t := ⟨many % 12, by omega⟩
  have htl : t < 12 := by omega
  have HT := Lib.hid ht
  clear hx hal hcz hl1 hat1 ht
  go_enter Try.func3, Try.ntmps3
  go_wp2_with fail
  refine (mine_new 20 w _ (by omega) (by omega) (Upd.refl [] w)).mono ?_
  rintro e w1 ⟨s, rfl, hm⟩
  obtain ⟨L, hm⟩ := hm
  have HM0 := Lib.hid (Exists.intro L hm : Mine w w1 s (newSp 20))
  have c0 := hm.c0
  have c1 := hm.c1
  clear hm
  go_wp2_with fail
  refine (err0 _).mono ?_
  rintro e w' ⟨rfl, rfl⟩
  go_wp2_with fail
  simp only [HX.out]
  clear c0 c1
  go_loopg [8] 4 (fun gk b wr => ∃ k : Nat, gk = 4 - k ∧ (k = 0 ∧ b = .int .i64 2 ∨ k = 1 ∧ b = .int .i64 4 ∨ k = 2 ∧ b = .int .i64 8 ∨ k = 3 ∧ b = .int .i64 16) ∧ w1 = wr)
  case atStart => exact ⟨0, rfl, .inl ⟨rfl, rfl⟩, rfl⟩
  case round =>
    obtain ⟨k, rfl, hk, rfl⟩ := hrel
    rcases hk with ⟨rfl, rfl⟩ | ⟨rfl, rfl⟩ | ⟨rfl, rfl⟩ | ⟨rfl, rfl⟩
    · go_wp2_with fail
      go_roundg 3
      case measure => omega
      case rel => exact ⟨1, rfl, (.inr (.inl ⟨rfl, rfl⟩)), rfl⟩
    · go_wp2_with fail
      go_roundg 2
      case measure => omega
      case rel => exact ⟨2, rfl, (.inr (.inr (.inl ⟨rfl, rfl⟩))), rfl⟩
    · go_wp2_with fail
      go_roundg 1
      case measure => omega
      case rel => exact ⟨3, rfl, (.inr (.inr (.inr ⟨rfl, rfl⟩))), rfl⟩
    · go_wp2_with fail
      refine (mine_alloc w s (newSp 20) S1 64 64 0 _ HM0.out HAL.out).mono ?_
      rintro e w2 ⟨rfl, hm⟩
      have HM1 := Lib.hid hm
      clear hm
      go_wp2_with fail
      refine (err0 _).mono ?_
      rintro e w' ⟨rfl, rfl⟩
      go_wp2_with fail
      go_loopg [13] (t + 1) (fun gk v wr => ∃ (i : Nat) (S : Sp), gk = t + 1 - i ∧ i ≤ t + 1 ∧ v = .int .i64 i ∧ Hid (Mine w wr s S) ∧ Hid (S.pg.length = 20 ∧ ∀ j, atP S.pg j = ordPg (.first 1) 3 (i / 4) (i % 4) j))
      case atStart => exact ⟨0, S1, rfl, by omega, rfl, HM1, HS1⟩
      case round =>
        obtain ⟨i, S, rfl, hi, rfl, HMS, HS⟩ := hrel
        by_cases hlt : i < t + 1
        · have hit : (i : Int) < (many : Int) % 12 + 1 := by have := HT.out; omega
          obtain ⟨S', ha, hl', hat'⟩ := order_at (S := S) (c := 3) (i := i) (m := 4) (W := 16) (by omega) rfl rfl HCZ.out rfl (by simp) HS.out.1 (by omega) HS.out.2
          have HA : Hid (S.alloc (1 + (x : Int)) = (S', 128 + 64 * ((i : Int) / 4) + 16 * ((i : Int) % 4), 0)) := Lib.hid (by rw [ha, show ((2 + i / 4 : Nat) : Int) * 64 + ((i % 4 : Nat) : Int) * ((16 : Nat) : Int) = 128 + 64 * ((i : Int) / 4) + 16 * ((i : Int) % 4) from by omega])
          have HS' := Lib.hid (And.intro hl' hat')
          have hi96 : i < 13 := by omega
          clear ha hl' hat'
          go_wp2_with fail
          refine (mine_alloc w s S S' (1 + (x : Int)) _ 0 _ HMS.out HA.out).mono ?_
          rintro e w4 ⟨rfl, hm⟩
          have HM4 := Lib.hid hm
          clear hm
          go_wp2_with fail
          go_quiet ((go_at_call 12; exact Calls.quiet_of_same ((err0 _).mono fun e w' h => ⟨h.1, h.2.symm⟩)))
          go_wp2_with fail
          go_roundg (t + 1 - (i + 1))
          case measure => omega
          case rel => exact ⟨i + 1, S', rfl, by omega, by go_num, Lib.hid (HM4.out.drewN nq), HS'⟩
        · obtain rfl : i = t + 1 := by omega
          have hit : ¬ ((t + 1 : Nat) : Int) < (many : Int) % 12 + 1 := by have := HT.out; omega
          go_wp2_with fail
          refine (mine_awake w _ s S HMS.out).mono ?_
          rintro e w8 ⟨rfl, hm⟩
          have HM7 := Lib.hid hm
          clear hm
          go_wp2_with fail
          go_ret
          exact ⟨rfl, HM7.out.world.below⟩
set_option maxRecDepth 100000 in
set_option maxHeartbeats 6400000 in
theorem order6_4 (n many x : Nat) (w : World) (hn : n ≤ 255) (hm : many ≤ 255) (hx : (n : Int) % 32 = x) (h0 : 16 ≤ x) (h1 : x < 32) : Calls Try.prog 3 #[.int .u8 n, .int .u8 many] w fun e w' => e = .returned (.bool true) ∧ Below w.heap.size w w' := by
  obtain ⟨S1, hal, hl1, hat1⟩ := order_start_large
  have hat1 := hat1 4
  have hcz : classZ (1 + (x : Int)) = (4 : Nat) := by
    unfold classZ
    rw [if_neg (by omega)]
    repeat' split
    all_goals omega
  have HX := Lib.hid hx
  have HAL := Lib.hid hal
  have HCZ := Lib.hid hcz
  have HS1 := Lib.hid (And.intro hl1 hat1)
  obtain ⟨t, ht⟩ : ∃ t : Nat, (many : Int) % 6 = t := ⟨many % 6, by omega⟩
  have htl : t < 6 := by omega
  have HT := Lib.hid ht
  clear hx hal hcz hl1 hat1 ht
  go_enter Try.func3, Try.ntmps3
  go_wp2_with fail
  refine (mine_new 20 w _ (by omega) (by omega) (Upd.refl [] w)).mono ?_
  rintro e w1 ⟨s, rfl, hm⟩
  obtain ⟨L, hm⟩ := hm
  have HM0 := Lib.hid (Exists.intro L hm : Mine w w1 s (newSp 20))
  have c0 := hm.c0
  have c1 := hm.c1
  clear hm
  go_wp2_with fail
  refine (err0 _).mono ?_
  rintro e w' ⟨rfl, rfl⟩
  go_wp2_with fail
  simp only [HX.out]
  clear c0 c1
  go_loopg [8] 5 (fun gk b wr => ∃ k : Nat, gk = 5 - k ∧ (k = 0 ∧ b = .int .i64 2 ∨ k = 1 ∧ b = .int .i64 4 ∨ k = 2 ∧ b = .int .i64 8 ∨ k = 3 ∧ b = .int .i64 16 ∨ k = 4 ∧ b = .int .i64 32) ∧ w1 = wr)
  case atStart => exact ⟨0, rfl, .inl ⟨rfl, rfl⟩, rfl⟩
  case round =>
    obtain ⟨k, rfl, hk, rfl⟩ := hrel
    rcases hk with ⟨rfl, rfl⟩ | ⟨rfl, rfl⟩ | ⟨rfl, rfl⟩ | ⟨rfl, rfl⟩ | ⟨rfl, rfl⟩
    · go_wp2_with fail
      go_roundg 4
      case measure => omega
      case rel => exact ⟨1, rfl, (.inr (.inl ⟨rfl, rfl⟩)), rfl⟩
    · go_wp2_with fail
      go_roundg 3
      case measure => omega
      case rel => exact ⟨2, rfl, (.inr (.inr (.inl ⟨rfl, rfl⟩))), rfl⟩
    · go_wp2_with fail
      go_roundg 2
      case measure => omega
      case rel => exact ⟨3, rfl, (.inr (.inr (.inr (.inl ⟨rfl, rfl⟩)))), rfl⟩
    · go_wp2_with fail
      go_roundg 1
      case measure => omega
      case rel => exact ⟨4, rfl, (.inr (.inr (.inr (.inr ⟨rfl, rfl⟩)))), rfl⟩
    · go_wp2_with fail
      refine (mine_alloc w s (newSp 20) S1 64 64 0 _ HM0.out HAL.out).mono ?_
      rintro e w2 ⟨rfl, hm⟩
      have HM1 := Lib.hid hm
      clear hm
      go_wp2_with fail
      refine (err0 _).mono ?_
      rintro e w' ⟨rfl, rfl⟩
      go_wp2_with fail
      go_loopg [13] (t + 1) (fun gk v wr => ∃ (i : Nat) (S : Sp), gk = t + 1 - i ∧ i ≤ t + 1 ∧ v = .int .i64 i ∧ Hid (Mine w wr s S) ∧ Hid (S.pg.length = 20 ∧ ∀ j, atP S.pg j = ordPg (.first 1) 4 (i / 2) (i % 2) j))
      case atStart => exact ⟨0, S1, rfl, by omega, rfl, HM1, HS1⟩
      case round =>
        obtain ⟨i, S, rfl, hi, rfl, HMS, HS⟩ := hrel
        by_cases hlt : i < t + 1
        · have hit : (i : Int) < (many : Int) % 6 + 1 := by have := HT.out; omega
          obtain ⟨S', ha, hl', hat'⟩ := order_at (S := S) (c := 4) (i := i) (m := 2) (W := 32) (by omega) rfl rfl HCZ.out rfl (by simp) HS.out.1 (by omega) HS.out.2
          have HA : Hid (S.alloc (1 + (x : Int)) = (S', 128 + 64 * ((i : Int) / 2) + 32 * ((i : Int) % 2), 0)) := Lib.hid (by rw [ha, show ((2 + i / 2 : Nat) : Int) * 64 + ((i % 2 : Nat) : Int) * ((32 : Nat) : Int) = 128 + 64 * ((i : Int) / 2) + 32 * ((i : Int) % 2) from by omega])
          have HS' := Lib.hid (And.intro hl' hat')
          have hi96 : i < 7 := by omega
          clear ha hl' hat'
          go_wp2_with fail
          refine (mine_alloc w s S S' (1 + (x : Int)) _ 0 _ HMS.out HA.out).mono ?_
          rintro e w4 ⟨rfl, hm⟩
          have HM4 := Lib.hid hm
          clear hm
          go_wp2_with fail
          go_quiet ((go_at_call 12; exact Calls.quiet_of_same ((err0 _).mono fun e w' h => ⟨h.1, h.2.symm⟩)))
          go_wp2_with fail
          go_roundg (t + 1 - (i + 1))
          case measure => omega
          case rel => exact ⟨i + 1, S', rfl, by omega, by go_num, Lib.hid (HM4.out.drewN nq), HS'⟩
        · obtain rfl : i = t + 1 := by omega
          have hit : ¬ ((t + 1 : Nat) : Int) < (many : Int) % 6 + 1 := by have := HT.out; omega
          go_wp2_with fail
          refine (mine_awake w _ s S HMS.out).mono ?_
          rintro e w8 ⟨rfl, hm⟩
          have HM7 := Lib.hid hm
          clear hm
          go_wp2_with fail
          go_ret
          exact ⟨rfl, HM7.out.world.below⟩
theorem order6_walk (n many : Nat) (w : World) (hn : n ≤ 255) (hm : many ≤ 255) : Calls Try.prog 3 #[.int .u8 n, .int .u8 many] w fun e w' => e = .returned (.bool true) ∧ Below w.heap.size w w' := by
  obtain ⟨x, hx⟩ : ∃ x : Nat, (n : Int) % 32 = x := ⟨n % 32, by omega⟩
  have hx32 : x < 32 := by omega
  by_cases h1 : x < 2
  · exact order6_0 n many x w hn hm hx (by omega) h1
  by_cases h2 : x < 4
  · exact order6_1 n many x w hn hm hx (by omega) h2
  by_cases h3 : x < 8
  · exact order6_2 n many x w hn hm hx (by omega) h3
  by_cases h4 : x < 16
  · exact order6_3 n many x w hn hm hx (by omega) h4
  · exact order6_4 n many x w hn hm hx (by omega) hx32
end Go.Proofs.Ytpichhnihppicaa
