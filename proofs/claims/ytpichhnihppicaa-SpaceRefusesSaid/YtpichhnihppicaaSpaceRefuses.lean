/- The walk of SpaceRefuses: at every input the law returns true, and nothing that was there has turned. -/
import Derived.Test.YtpichhnihppicaaSpaceZeros
namespace Go.Proofs.Ytpichhnihppicaa
open Go Go.RowKit

/-- Two spaces of the call's own that share no block. -/
def Two (a0 w : World) (s : Nat) (S : Sp) (t : Nat) (T : Sp) : Prop := ∃ L M, MineL a0 w s L S ∧ MineL a0 w t M T ∧ ∀ k, Owns t M T k → ¬ Owns s L S k
section
variable {a0 w w' : World} {s t : Nat} {S S' T : Sp} {L : Lay}
theorem Two.upd (h : Two a0 w s S t T) (hu : Upd [] w w') : Two a0 w' s S t T := by
  obtain ⟨L, M, h1, h2, h3⟩ := h
  exact ⟨L, M, h1.upd hu, h2.upd hu, h3⟩
theorem Two.after {M : Lay} (h1 : MineL a0 w s L S) (h2 : MineL a0 w t M T) (h3 : ∀ k, Owns t M T k → ¬ Owns s L S k) (ha : After s L S S' w w') : Two a0 w' s S' t T := by
  obtain ⟨L', k1, k2, k3, k4⟩ := ha
  have hz := h1.2.2.size
  have hu : Upd [] a0 w' := h1.2.2.step k2 (fun i hi => .inr (h1.2.1 i (foot_owns hi)))
  refine ⟨L', M, ⟨k1, fun k hk => ?_, hu⟩, ⟨h2.1.upd k2 (fun k hk hm => h3 k hk (foot_owns hm)), h2.2.1, hu⟩, fun k hk hk' => ?_⟩
  · rcases k4 k hk with h | h
    · exact h1.2.1 k h
    · omega
  · rcases k4 k hk' with h | h
    · exact h3 k hk h
    · have := h2.1.owned hk; omega
end
theorem two_alloc (a0 : World) (s t : Nat) (S S' T : Sp) (n : Int) (x y : Int) (w : World) (h : Two a0 w s S t T) (hx : S.alloc n = (S', x, y)) :
    Calls Try.prog 13 #[.pointer (some ⟨s, 0, none⟩), .int .i64 n] w fun e w' => e = .returned (.tuple #[.int .i64 x, .int .i64 y]) ∧ Two a0 w' s S' t T := by
  obtain ⟨L, M, h1, h2, h3⟩ := h
  refine (alloc_calls s L S n w h1.1).mono fun e w' ⟨he, ha⟩ => ?_
  rw [hx] at he ha
  exact ⟨he, Two.after h1 h2 h3 ha⟩
theorem two_free (a0 : World) (s t : Nat) (S S' T : Sp) (a : Int) (y : Int) (w : World) (h : Two a0 w s S t T) (hx : S.drop a = (S', y)) :
    Calls Try.prog 16 #[.pointer (some ⟨s, 0, none⟩), .int .i64 a] w fun e w' => e = .returned (.int .i64 y) ∧ Two a0 w' s S' t T := by
  obtain ⟨L, M, h1, h2, h3⟩ := h
  refine (free_calls s L S a w h1.1).mono fun e w' ⟨he, ha⟩ => ?_
  rw [hx] at he ha
  exact ⟨he, Two.after h1 h2 h3 ha⟩
theorem two_find (a0 : World) (s t : Nat) (S T : Sp) (a : Int) (x y : Int) (z : Bool) (w : World) (h : Two a0 w s S t T) (hx : S.find a = (x, y, z)) :
    Calls Try.prog 15 #[.pointer (some ⟨s, 0, none⟩), .int .i64 a] w fun e w' => e = .returned (.tuple #[.int .i64 x, .int .i64 y, .bool z]) ∧ Two a0 w' s S t T := by
  have h' := h
  obtain ⟨L, M, h1, h2, h3⟩ := h
  refine (find_calls s L S a w h1.1).mono fun e w' ⟨he, ha⟩ => ⟨?_, h'.upd ha⟩
  rw [he, hx]
  rfl
theorem two_find2 (a0 : World) (s t : Nat) (S T : Sp) (a : Int) (x y : Int) (z : Bool) (w : World) (h : Two a0 w s S t T) (hx : T.find a = (x, y, z)) :
    Calls Try.prog 15 #[.pointer (some ⟨t, 0, none⟩), .int .i64 a] w fun e w' => e = .returned (.tuple #[.int .i64 x, .int .i64 y, .bool z]) ∧ Two a0 w' s S t T := by
  have h' := h
  obtain ⟨L, M, h1, h2, h3⟩ := h
  refine (find_calls t M T a w h2.1).mono fun e w' ⟨he, ha⟩ => ⟨?_, h'.upd ha⟩
  rw [he, hx]
  rfl
theorem two_used (a0 : World) (s t : Nat) (S T : Sp) (x : Int) (w : World) (h : Two a0 w s S t T) (hx : T.used = x) :
    Calls Try.prog 17 #[.pointer (some ⟨t, 0, none⟩)] w fun e w' => e = .returned (.int .i64 x) ∧ Two a0 w' s S t T := by
  have h' := h
  obtain ⟨L, M, h1, h2, h3⟩ := h
  refine (used_calls t M T w h2.1).mono fun e w' ⟨he, ha⟩ => ⟨?_, h'.upd ha⟩
  rw [he, hx]
theorem two_new (a0 w : World) (s n : Nat) (S : Sp) (h : Mine a0 w s S) (h1 : 1 ≤ n) (h2 : n ≤ 256) : Calls Try.prog 11 #[.int .i64 n] w fun e w' => ∃ t, e = .returned (.tuple #[.pointer (some ⟨t, 0, none⟩), .int .i64 0]) ∧ Two a0 w' s S t (newSp n) := by
  obtain ⟨L, h⟩ := h
  refine (space_new_yes n w h1 h2).mono fun e w' ⟨t, M, he, hs, ho, hu⟩ => ⟨t, he, L, M, h.upd hu, ⟨hs, fun k hk => Nat.le_trans h.2.2.size (ho k hk), h.2.2.trans hu⟩, fun k hk hk' => ?_⟩
  have := ho k hk
  have := h.1.owned hk'
  omega
theorem block_low {n : Int} (h : n < 1 ∨ 1024 < n) : blockZ n = 0 := by
  unfold blockZ pagesZ
  have hc : ¬ 0 ≤ classZ n := by
    unfold classZ
    rcases h with h | h
    · rw [if_pos h]; omega
    · rw [if_neg (by omega), if_neg (by omega), if_neg (by omega), if_neg (by omega), if_neg (by omega), if_neg (by omega)]; omega
  rw [if_neg hc, if_pos (by omega)]; rfl
theorem alloc_low {S : Sp} {n : Int} (h : n < 1 ∨ 1024 < n) : S.alloc n = (S, 0, 1) := if_pos (block_low h)

set_option maxRecDepth 100000 in
set_option maxHeartbeats 6400000 in
theorem refuses6_walk (n : Nat) (odd : Int) (w : World) (hn : n ≤ 255) : Calls Try.prog 7 #[.int .u8 n, .int .i64 odd] w fun e w' => e = .returned (.bool true) ∧ Below w.heap.size w w' := by
  obtain ⟨M, hM, hMb, hM2, hM3⟩ := block_nat (n := 3 + (n : Int)) (by omega) (by omega)
  obtain ⟨S1, hal, hmd⟩ := alloc_fresh (newSp_wf (by omega) (by omega)) (np := 20) rfl (3 + (n : Int)) hMb (by have := need_le hMb (k := 5) (by omega) (by omega); omega)
  have hge := (block_bd hMb).1
  rw [hM] at hmd hge
  have hM4 : 3 ≤ M := by omega
  have hf1 : ∀ z, S1.find z = if 64 ≤ z ∧ z < 64 + (M : Int) then (64, (M : Int), true) else (0, 0, false) := fun z => by
    rw [hmd.find]
    split
    · rfl
    · exact eta_find (S := newSp 20) (by omega) rfl z
  have HNO : Hid (∀ z, z ≠ 64 → S1.drop z = (S1, 2)) := Lib.hid fun z hz => drop_none (by
    rw [hf1]
    split
    · exact .inr (by simpa using hz.symm)
    · exact .inl rfl)
  have HFA : Hid (S1.find 66 = (64, (M : Int), true)) := Lib.hid (by rw [hf1, if_pos (by omega)])
  have HFT : Hid ((newSp 20).find 64 = (0, 0, false)) := Lib.hid (eta_find (S := newSp 20) (by omega) rfl 64)
  have HUT : Hid ((newSp 20).used = 0) := Lib.hid (by rw [used_eq (newSp_wf (by omega) (by omega)) (bs := []) (by simp) (fun z m => by rw [eta_find (S := newSp 20) (by omega) rfl z]; simp)]; rfl)
  have HAL := Lib.hid hal
  clear hM hMb hge hal hmd hf1
  have start : ∀ (odd : Int), (odd < 0 ∨ (0 ≤ odd ∧ odd < 64) ∨ odd = 64 ∨ (64 < odd ∧ odd ≤ 1025) ∨ 1025 < odd) := fun odd => by omega
  have H5 := start odd
  clear start
  rcases H5 with h | ⟨h, h'⟩ | rfl | ⟨h, h'⟩ | h
  all_goals
    try have hodd : (odd == 64) = false := by simp; omega
    go_enter Try.func7, Try.ntmps7
    go_wp2_with fail
    refine (mine_new 20 w _ (by omega) (by omega) (Upd.refl [] w)).mono ?_
    rintro e w1 ⟨s, rfl, hm⟩
    have HM0 := Lib.hid hm
    clear hm
    go_wp2_with fail
    refine (two_new w w1 s 20 (newSp 20) HM0.out (by omega) (by omega)).mono ?_
    rintro e w2 ⟨t, rfl, hm⟩
    have HMT := Lib.hid hm
    obtain ⟨L, ML, hm1, hm2, _⟩ := hm
    have c0 := hm1.c0
    have c1 := hm1.c1
    clear hm1 hm2
    go_wp2_with fail
    refine (err0 _).mono ?_
    rintro e w' ⟨rfl, rfl⟩
    go_wp2_with fail
    refine (err0 _).mono ?_
    rintro e w' ⟨rfl, rfl⟩
    go_wp2_with fail
    refine (two_alloc w s t (newSp 20) S1 (newSp 20) _ 64 0 _ HMT.out HAL.out).mono ?_
    rintro e w3 ⟨rfl, hm⟩
    have HM1 := Lib.hid hm
    clear hm c0 c1
    go_wp2_with fail
    refine (two_alloc w s t S1 S1 (newSp 20) _ 0 1 _ HM1.out (alloc_low (by omega))).mono ?_
    rintro e w4 ⟨rfl, hm⟩
    have HM2 := Lib.hid hm
    clear hm
    go_wp2_with fail
    refine (two_alloc w s t S1 S1 (newSp 20) _ 0 1 _ HM2.out (alloc_low (by omega))).mono ?_
    rintro e w5 ⟨rfl, hm⟩
    have HM3 := Lib.hid hm
    clear hm
    go_wp2_with fail
    refine (two_free w s t S1 S1 (newSp 20) _ 2 _ HM3.out (HNO.out _ (by omega))).mono ?_
    rintro e w6 ⟨rfl, hm⟩
    have HM4 := Lib.hid hm
    clear hm
    go_wp2_with fail
    refine (two_free w s t S1 S1 (newSp 20) _ 2 _ HM4.out (HNO.out _ (by omega))).mono ?_
    rintro e w7 ⟨rfl, hm⟩
    have HM5 := Lib.hid hm
    clear hm
    go_wp2_with fail
    refine (two_find w s t S1 (newSp 20) _ _ _ _ _ HM5.out HFA.out).mono ?_
    rintro e w8 ⟨rfl, hm⟩
    have HM6 := Lib.hid hm
    clear hm
    go_wp2_with fail
    refine (two_find2 w s t S1 (newSp 20) _ _ _ _ _ HM6.out HFT.out).mono ?_
    rintro e w9 ⟨rfl, hm⟩
    have HM7 := Lib.hid hm
    clear hm
    go_wp2_with fail
    refine (err0 _).mono ?_
    rintro e w' ⟨rfl, rfl⟩
    go_wp2_with fail
    refine (err1 _).mono ?_
    rintro e w' ⟨rfl, rfl⟩
    go_wp2_with fail
    refine (err1 _).mono ?_
    rintro e w' ⟨rfl, rfl⟩
    go_wp2_with fail
    refine (err2 _).mono ?_
    rintro e w' ⟨rfl, rfl⟩
    go_wp2_with fail
    refine (err2 _).mono ?_
    rintro e w' ⟨rfl, rfl⟩
    go_wp2_with fail
    refine (two_used w s t S1 (newSp 20) _ _ HM7.out HUT.out).mono ?_
    rintro e w10 ⟨rfl, hm⟩
    have HM8 : Hid (Upd [] w w10) := Lib.hid (by obtain ⟨_, _, h, _⟩ := hm; exact h.2.2)
    clear hm
    go_wp2_with fail
    refine (awake6_calls _).mono ?_
    rintro e w11 ⟨rfl, hb⟩
    have HM9 : Hid (Upd [] w w11) := Lib.hid (HM8.out.step (Upd.of_below hb : Upd [] _ _) (by simp))
    clear hb
    go_wp2_with fail
    go_ret
    exact ⟨rfl, HM9.out.below⟩
end Go.Proofs.Ytpichhnihppicaa
