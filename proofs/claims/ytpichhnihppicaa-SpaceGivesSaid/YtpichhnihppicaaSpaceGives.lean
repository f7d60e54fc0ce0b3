/- The walk of SpaceGives: at every input the law returns true, and nothing that was there has turned. -/
import Derived.Test.YtpichhnihppicaaMine
namespace Go.Proofs.Ytpichhnihppicaa
open Go Go.RowKit

theorem gives_more : ∀ x : Fin 32, 2 ≤ x.val →
    ((newSp 2).alloc (1 + (x.val : Int))).2 = (64, 0) ∧ (((newSp 2).alloc (1 + (x.val : Int))).1.alloc (1 + (x.val : Int) % 2)).2 = (0, 3) ∧ ((((newSp 2).alloc (1 + (x.val : Int))).1.alloc (1 + (x.val : Int) % 2)).1.alloc 64).2 = (0, 3) ∧
    (((((newSp 2).alloc (1 + (x.val : Int))).1.alloc (1 + (x.val : Int) % 2)).1.alloc 64).1.drop 64).2 = 0 ∧ ((((((newSp 2).alloc (1 + (x.val : Int))).1.alloc (1 + (x.val : Int) % 2)).1.alloc 64).1.drop 64).1.alloc 64).2 = (64, 0) ∧
    ((((((newSp 2).alloc (1 + (x.val : Int))).1.alloc (1 + (x.val : Int) % 2)).1.alloc 64).1.drop 64).1.alloc 64).1.used = 64 := by decide +kernel
theorem gives_less : ∀ x : Fin 2,
    ((newSp 2).alloc (1 + (x.val : Int))).2 = (64, 0) ∧ (((newSp 2).alloc (1 + (x.val : Int))).1.alloc (1 + (x.val : Int) % 2)).2 = (66, 0) ∧
    ((((newSp 2).alloc (1 + (x.val : Int))).1.alloc (1 + (x.val : Int) % 2)).1.drop 64).2 = 0 ∧ (((((newSp 2).alloc (1 + (x.val : Int))).1.alloc (1 + (x.val : Int) % 2)).1.drop 64).1.alloc 64).2 = (0, 3) ∧
    ((((((newSp 2).alloc (1 + (x.val : Int))).1.alloc (1 + (x.val : Int) % 2)).1.drop 64).1.alloc 64).1.alloc 64).2 = (0, 3) ∧
    ((((((newSp 2).alloc (1 + (x.val : Int))).1.alloc (1 + (x.val : Int) % 2)).1.drop 64).1.alloc 64).1.drop 66).2 = 0 ∧
    (((((((newSp 2).alloc (1 + (x.val : Int))).1.alloc (1 + (x.val : Int) % 2)).1.drop 64).1.alloc 64).1.drop 66).1.alloc 64).2 = (64, 0) := by decide +kernel

set_option maxRecDepth 100000 in
set_option maxHeartbeats 1600000 in
theorem gives_walk (n : Nat) (last : Bool) (w : World) (hn : n ≤ 255) : Calls Try.prog 6 #[.int .u8 n, .bool last] w fun e w' => e = .returned (.bool true) ∧ Below w.heap.size w w' := by
  obtain ⟨x, hx⟩ : ∃ x : Nat, (n : Int) % 32 = x := ⟨n % 32, by omega⟩
  have hx32 : x < 32 := by omega
  have HX := Lib.hid hx
  by_cases hsm : 2 ≤ x
  · obtain ⟨f1, f2, f3, f4, f5, f6⟩ := gives_more ⟨x, hx32⟩ hsm
    have g1 := alloc_eq f1
    have g2 := alloc_eq f2
    have g3 := alloc_eq f3
    have g4 := drop_eq f4
    have g5 := alloc_eq f5
    simp only at g1 g2 g3 g4 g5 f6
    clear f1 f2 f3 f4 f5
    generalize ((newSp 2).alloc (1 + (x : Int))).1 = S1 at *
    generalize (S1.alloc (1 + (x : Int) % 2)).1 = S2 at *
    generalize (S2.alloc 64).1 = S3 at *
    generalize (S3.drop 64).1 = S4 at *
    generalize (S4.alloc 64).1 = S5 at *
    have G1 := Lib.hid g1
    have G2 := Lib.hid g2
    have G3 := Lib.hid g3
    have G4 := Lib.hid g4
    have G5 := Lib.hid g5
    have G6 := Lib.hid f6
    clear g1 g2 g3 g4 g5 f6 hx
    go_enter Try.func6, Try.ntmps6
    go_wp2_with fail
    refine (mine_new 2 w _ (by omega) (by omega) (Upd.refl [] w)).mono ?_
    rintro e w1 ⟨s, rfl, hm⟩
    obtain ⟨L, hm⟩ := hm
    have HM0 := Lib.hid (Exists.intro L hm : Mine w w1 s (newSp 2))
    have c0 := hm.c0
    have c1 := hm.c1
    clear hm
    go_wp2_with fail
    refine (err0 _).mono ?_
    rintro e w' ⟨rfl, rfl⟩
    go_wp2_with fail
    simp only [HX.out]
    refine (mine_alloc w s (newSp 2) S1 _ 64 0 _ HM0.out G1.out).mono ?_
    rintro e w2 ⟨rfl, hm⟩
    have HM1 := Lib.hid hm
    clear hm c0 c1
    have HF := Lib.hid (show ∀ z : Int, z = 1 + (x : Int) % 2 → S1.alloc z = (S2, 0, 3) from fun z hz => by rw [hz]; exact G2.out)
    go_wp2_with fail
    refine (mine_alloc w s S1 S2 _ 0 3 _ HM1.out (HF.out _ (by omega))).mono ?_
    rintro e w3 ⟨rfl, hm⟩
    have HM2 := Lib.hid hm
    clear hm HF
    go_wp2_with fail
    refine (mine_alloc w s S2 S3 64 0 3 _ HM2.out G3.out).mono ?_
    rintro e w4 ⟨rfl, hm⟩
    have HM3 := Lib.hid hm
    clear hm
    go_wp2_with fail
    refine (mine_free w s S3 S4 64 0 _ HM3.out G4.out).mono ?_
    rintro e w5 ⟨rfl, hm⟩
    have HM4 := Lib.hid hm
    clear hm
    go_wp2_with fail
    refine (mine_alloc w s S4 S5 64 64 0 _ HM4.out G5.out).mono ?_
    rintro e w6 ⟨rfl, hm⟩
    have HM5 := Lib.hid hm
    clear hm
    go_wp2_with fail
    refine (err0 _).mono ?_
    rintro e w' ⟨rfl, rfl⟩
    go_wp2_with fail
    refine (err3 _).mono ?_
    rintro e w' ⟨rfl, rfl⟩
    go_wp2_with fail
    refine (err3 _).mono ?_
    rintro e w' ⟨rfl, rfl⟩
    go_wp2_with fail
    refine (err0 _).mono ?_
    rintro e w' ⟨rfl, rfl⟩
    go_wp2_with fail
    refine (err0 _).mono ?_
    rintro e w' ⟨rfl, rfl⟩
    go_wp2_with fail
    refine (mine_used w s S5 64 _ HM5.out G6.out).mono ?_
    rintro e w7 ⟨rfl, hm⟩
    have HM6 := Lib.hid hm
    clear hm
    go_wp2_with fail
    refine (mine_awake w _ s S5 HM6.out).mono ?_
    rintro e w8 ⟨rfl, hm⟩
    have HM7 := Lib.hid hm
    clear hm
    go_wp2_with fail
    go_ret
    exact ⟨rfl, HM7.out.world.below⟩
  · obtain ⟨f1, f2, f3, f4, f5, f6, f7⟩ := gives_less ⟨x, by omega⟩
    have g1 := alloc_eq f1
    have g2 := alloc_eq f2
    have g3 := drop_eq f3
    have g4 := alloc_eq f4
    have g5 := alloc_eq f5
    have g6 := drop_eq f6
    have g7 := alloc_eq f7
    simp only at g1 g2 g3 g4 g5 g6 g7
    clear f1 f2 f3 f4 f5 f6 f7
    generalize ((newSp 2).alloc (1 + (x : Int))).1 = S1 at *
    generalize (S1.alloc (1 + (x : Int) % 2)).1 = S2 at *
    generalize (S2.drop 64).1 = S3 at *
    generalize (S3.alloc 64).1 = S4 at *
    generalize (S4.alloc 64).1 = S5 at *
    generalize (S4.drop 66).1 = S6 at *
    generalize (S6.alloc 64).1 = S7 at *
    have G1 := Lib.hid g1
    have G2 := Lib.hid g2
    have G3 := Lib.hid g3
    have G4 := Lib.hid g4
    have G5 := Lib.hid g5
    have G6 := Lib.hid g6
    have G7 := Lib.hid g7
    clear g1 g2 g3 g4 g5 g6 g7 hx
    cases last
    all_goals
      go_enter Try.func6, Try.ntmps6
      go_wp2_with fail
      refine (mine_new 2 w _ (by omega) (by omega) (Upd.refl [] w)).mono ?_
      rintro e w1 ⟨s, rfl, hm⟩
      obtain ⟨L, hm⟩ := hm
      have HM0 := Lib.hid (Exists.intro L hm : Mine w w1 s (newSp 2))
      have c0 := hm.c0
      have c1 := hm.c1
      clear hm
      go_wp2_with fail
      refine (err0 _).mono ?_
      rintro e w' ⟨rfl, rfl⟩
      go_wp2_with fail
      simp only [HX.out]
      refine (mine_alloc w s (newSp 2) S1 _ 64 0 _ HM0.out G1.out).mono ?_
      rintro e w2 ⟨rfl, hm⟩
      have HM1 := Lib.hid hm
      clear hm c0 c1
      have HF := Lib.hid (show ∀ z : Int, z = 1 + (x : Int) % 2 → S1.alloc z = (S2, 66, 0) from fun z hz => by rw [hz]; exact G2.out)
      go_wp2_with fail
      refine (mine_alloc w s S1 S2 _ 66 0 _ HM1.out (HF.out _ (by omega))).mono ?_
      rintro e w3 ⟨rfl, hm⟩
      have HM2 := Lib.hid hm
      clear hm HF
      go_wp2_with fail
      refine (err0 _).mono ?_
      rintro e w' ⟨rfl, rfl⟩
      go_wp2_with fail
      refine (err0 _).mono ?_
      rintro e w' ⟨rfl, rfl⟩
      go_wp2_with fail
      refine (mine_free w s S2 S3 64 0 _ HM2.out G3.out).mono ?_
      rintro e w4 ⟨rfl, hm⟩
      have HM3 := Lib.hid hm
      clear hm
      go_wp2_with fail
      refine (mine_alloc w s S3 S4 64 0 3 _ HM3.out G4.out).mono ?_
      rintro e w5 ⟨rfl, hm⟩
      have HM4 := Lib.hid hm
      clear hm
      go_wp2_with fail
      first
        | (refine (mine_alloc w s S4 S5 64 0 3 _ HM4.out G5.out).mono ?_
           rintro e w6 ⟨rfl, hm⟩
           have HM5 := Lib.hid hm
           clear hm
           go_wp2_with fail
           refine (err0 _).mono ?_
           rintro e w' ⟨rfl, rfl⟩
           go_wp2_with fail
           refine (err3 _).mono ?_
           rintro e w' ⟨rfl, rfl⟩
           go_wp2_with fail
           refine (err3 _).mono ?_
           rintro e w' ⟨rfl, rfl⟩
           go_wp2_with fail
           refine (mine_awake w _ s S5 HM5.out).mono ?_
           rintro e w8 ⟨rfl, hm⟩
           have HM7 := Lib.hid hm
           clear hm
           go_wp2_with fail
           go_ret
           exact ⟨rfl, HM7.out.world.below⟩)
        | (refine (mine_free w s S4 S6 66 0 _ HM4.out G6.out).mono ?_
           rintro e w6 ⟨rfl, hm⟩
           have HM5 := Lib.hid hm
           clear hm
           go_wp2_with fail
           refine (mine_alloc w s S6 S7 64 64 0 _ HM5.out G7.out).mono ?_
           rintro e w7 ⟨rfl, hm⟩
           have HM6 := Lib.hid hm
           clear hm
           go_wp2_with fail
           refine (err0 _).mono ?_
           rintro e w' ⟨rfl, rfl⟩
           go_wp2_with fail
           refine (err3 _).mono ?_
           rintro e w' ⟨rfl, rfl⟩
           go_wp2_with fail
           refine (err0 _).mono ?_
           rintro e w' ⟨rfl, rfl⟩
           go_wp2_with fail
           refine (mine_awake w _ s S7 HM6.out).mono ?_
           rintro e w8 ⟨rfl, hm⟩
           have HM7 := Lib.hid hm
           clear hm
           go_wp2_with fail
           go_ret
           exact ⟨rfl, HM7.out.world.below⟩)
end Go.Proofs.Ytpichhnihppicaa
