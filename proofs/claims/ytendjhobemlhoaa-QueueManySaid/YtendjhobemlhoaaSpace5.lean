/- The contracts of Find, New, Cap, Alloc, Free as functions of the space's state. -/
import Derived.Test.YtendjhobemlhoaaSpace4
namespace Go.Proofs.Ytendjhobemlhoaa
open Go Go.RowKit

theorem find_calls (s : Nat) (L : Lay) (S : Sp) (a : Int) (w : World) (h : IsSpace w s L S) :
    Calls Try.prog 60 #[.pointer (some ⟨s, 0, none⟩), .int .i64 a] w fun e w' => e = .returned (FindVal (S.find a)) ∧ Upd [] w w' := by
  by_cases hout : a < 0 ∨ S.W.length ≤ a
  · have e : S.find a = (0, 0, false) := if_pos hout
    rw [e]
    exact find_no s L S a w h hout
  · have h0 : 0 ≤ a := by omega
    have h1 : a < S.W.length := by omega
    obtain ⟨p, hp⟩ : ∃ p : Nat, a / 64 = p := ⟨(a / 64).toNat, by omega⟩
    have hpn : p < S.pg.length := by have := h.wf.len; omega
    have hS : ∀ x, atP S.pg p = x → S.find a = match x with
        | .small c l => if hasB l (a % 64 / wordsOf c) then (a / 64 * 64 + a % 64 / wordsOf c * wordsOf c, wordsOf c, true) else (0, 0, false)
        | .first k => (a / 64 * 64, k * 64, true)
        | .rest f => (f * 64, manyOf (atP S.pg f) * 64, true)
        | _ => (0, 0, false) := fun x hx => by
      unfold Sp.find
      rw [if_neg hout, show (a / 64).toNat = p from by omega, hx]
      cases x <;> rfl
    cases hx : atP S.pg p <;> rw [hS _ hx]
    case small c l =>
      exact find_small s L S a p c l w h h0 h1 hp hx _ rfl
    case zero =>
      refine (find_large s L S a p w h h0 h1 hp (fun c l e => by rw [hx] at e; cases e)).mono fun e w' ⟨he, hu⟩ => ⟨?_, hu⟩
      rcases he with ⟨f, k, ⟨a1, a2, a3⟩, rfl⟩ | ⟨_, rfl⟩
      · exfalso
        rcases Nat.eq_or_lt_of_le a2 with rfl | h2
        · rw [a1] at hx; cases hx
        · have := (h.wf.first f k a1).2.2 p h2 a3
          rw [this] at hx; cases hx
      · rfl
    case free =>
      refine (find_large s L S a p w h h0 h1 hp (fun c l e => by rw [hx] at e; cases e)).mono fun e w' ⟨he, hu⟩ => ⟨?_, hu⟩
      rcases he with ⟨f, k, ⟨a1, a2, a3⟩, rfl⟩ | ⟨_, rfl⟩
      · exfalso
        rcases Nat.eq_or_lt_of_le a2 with rfl | h2
        · rw [a1] at hx; cases hx
        · have := (h.wf.first f k a1).2.2 p h2 a3
          rw [this] at hx; cases hx
      · rfl
    case first k =>
      refine (find_large s L S a p w h h0 h1 hp (fun c l e => by rw [hx] at e; cases e)).mono fun e w' ⟨he, hu⟩ => ⟨?_, hu⟩
      have hk := (h.wf.first p k hx).1
      rcases he with ⟨f, k', ha, rfl⟩ | ⟨hno, _⟩
      · obtain ⟨rfl, rfl⟩ := large_one h.wf ha ⟨hx, Nat.le_refl _, by omega⟩
        rw [hp]
      · exact absurd ⟨Nat.le_refl _, by omega⟩ (hno p k hx)
    case rest f0 =>
      refine (find_large s L S a p w h h0 h1 hp (fun c l e => by rw [hx] at e; cases e)).mono fun e w' ⟨he, hu⟩ => ⟨?_, hu⟩
      obtain ⟨hf, k, hk, hlt⟩ := h.wf.rest p f0 hx
      rcases he with ⟨f, k', ha, rfl⟩ | ⟨hno, _⟩
      · obtain ⟨rfl, rfl⟩ := large_one h.wf ha ⟨hk, by omega, hlt⟩
        simp only [hk, manyOf]
      · exact absurd ⟨by omega, hlt⟩ (hno f0 k hk)

theorem find_nil (a : Int) (w : World) : Calls Try.prog 60 #[.pointer none, .int .i64 a] w fun e w' => e = .returned (FindVal (0, 0, false)) ∧ w = w' := by
  unfold FindVal
  go_enter Try.func60, Try.ntmps60
  go_wp2_with fail
  go_ret3
  exact ⟨rfl, rfl⟩

theorem space_new_no (n : Int) (w : World) (h : n < 1 ∨ 256 < n) : Calls Try.prog 64 #[.int .i64 n] w fun e w' => e = .returned (.tuple #[.pointer none, .int .i64 1]) ∧ w = w' := by
  have H := Lib.hid h
  clear h
  go_enter Try.func64, Try.ntmps64
  go_wp2_with fail
  refine (arena_new_no n _ H.out).mono ?_
  rintro e w' ⟨rfl, rfl⟩
  go_wp2_with fail
  go_ret2
  exact ⟨rfl, rfl⟩

/-- A new space. -/
def NewSpace (n : Nat) (w : World) (e : Ending) (w' : World) : Prop :=
  ∃ s L, e = .returned (.tuple #[.pointer (some ⟨s, 0, none⟩), .int .i64 0]) ∧ IsSpace w' s L (newSp n) ∧ (∀ k, Owns s L (newSp n) k → w.heap.size ≤ k) ∧ Upd [] w w'
theorem new_at (n p : Nat) (h1 : 1 ≤ n) : atP (newSp n).pg p = if p = 0 then .zero else .free := by
  unfold newSp
  rw [atP_set _ (by simp; omega)]
  by_cases h : p = 0
  · rw [if_pos h, if_pos h]
  · rw [if_neg h, if_neg h]
    unfold atP
    rw [List.getD_eq_getElem?_getD, List.getElem?_replicate]
    split <;> rfl
theorem space_new_yes (n : Nat) (w : World) (h1 : 1 ≤ n) (h2 : n ≤ 256) : Calls Try.prog 64 #[.int .i64 n] w (NewSpace n w) := by
  have hmm := @run_makeMap Try.prog
  go_enter Try.func64, Try.ntmps64
  go_wp2_with fail
  refine (arena_new_yes n _ h1 h2).mono ?_
  rintro e w1 ⟨pa, ga, rfl, hA, hpa, hga, hb⟩
  have HA := Lib.hid hA
  have HB := Lib.hid hb
  have HQ := Lib.hid (And.intro hpa hga)
  clear hA hb hpa hga
  go_wp2_with fail
  refine (pages_new_yes n _ h1 h2).mono ?_
  rintro e w2 ⟨q0, b0, g0, rfl, hP, hq, hb0, hg, hb⟩
  have HP := Lib.hid hP
  have HB2 := Lib.hid hb
  have HQ2 := Lib.hid (And.intro hq (And.intro hb0 hg))
  clear hP hb hq hb0 hg
  go_wp2_with fail
  go_ret2
  obtain ⟨hpa, hga⟩ := HQ.out
  obtain ⟨hq, hb0, hg⟩ := HQ2.out
  have z1 := HB.out.size
  have z2 := HB2.out.size
  have u1 : Upd [] w w1 := Upd.of_below HB.out
  have u2 : Upd [] w w2 := u1.step (Upd.of_below HB2.out : Upd [] _ _) (by simp)
  have u12 : Upd [] w1 w2 := Upd.of_below HB2.out
  have hno : ∀ p c l, atP (newSp n).pg p ≠ .small c l := fun p c l e => by
    rw [new_at n p h1] at e
    split at e <;> cases e
  have hnf : ∀ p k, atP (newSp n).pg p ≠ .first k := fun p k e => by
    rw [new_at n p h1] at e
    split at e <;> cases e
  have um : Upd [] w2 (((w2.alloc (.map #[] 0)).alloc (.map #[] 0)).alloc (.cells #[.pointer (some ⟨pa, 0, none⟩), .pointer (some ⟨q0, 0, none⟩), .map (some w2.heap.size), .map (some (w2.heap.size + 1))] 102)) := (((Upd.refl [] w2).alloc _).alloc _).alloc _
  refine ⟨w2.heap.size + 2, ⟨pa, ga, q0, b0, g0, w2.heap.size, w2.heap.size + 1, fun _ => (0, 0, 0)⟩, rfl, ⟨Blk.newAt _ _ _ _ (by simp), (HA.out.upd u12 (by simp) (by simp)).upd um (by simp) (by simp), ?_, ?_, ?_, fun p c l hp => absurd hp (hno p c l), by simp, fun p c l hp => absurd hp (hno p c l), fun p c l _ _ _ hp => absurd hp (hno p c l), newSp_wf h1 h2⟩, ?_, u2.trans um⟩
  · have e : bitsOf (newSp n).pg = (List.replicate n false).set 0 true := by
      refine ext_getD (by simp [bits_length, newSp]) fun j hj => ?_
      have hjn : j < n := by simpa [bits_length, newSp] using hj
      rw [bits_get, new_at n j h1, getD_set, rep_get]
      by_cases h : j = 0
      · subst h; simp [Pst.taken]; omega
      · rw [if_neg h, if_neg (by omega)]; rfl
    rw [e]
    exact HP.out.upd um (by simp) (by simp) (by simp)
  · refine MapV.mono (n := 0) (((MapV.new w2).alloc _).alloc _ |>.congr fun x => ?_) (by omega)
    cases hx : smallF ⟨pa, ga, q0, b0, g0, w2.heap.size, w2.heap.size + 1, fun _ => (0, 0, 0)⟩ (newSp n).pg x with
    | none => rfl
    | some v =>
      obtain ⟨p, c, l, _, _, hp⟩ := smallF_in (by rw [hx]; simp)
      exact absurd hp (hno p c l)
  · refine MapV.mono (n := 0) ((MapV.newAt (w2.alloc (.map #[] 0)) (w2.heap.size + 1) (by simp)).alloc _ |>.congr fun x => ?_) (by omega)
    cases hx : largeF (newSp n).pg x with
    | none => rfl
    | some v =>
      obtain ⟨p, k, _, _, hp⟩ := largeF_in (by rw [hx]; simp)
      exact absurd hp (hnf p k)
  · intro k hk
    rcases hk with h | h | h | h | h | h | h | h | ⟨p, c, l, hp, _⟩
    · omega
    · rw [h]; exact hpa
    · rw [h]; exact hga
    · rw [h]; exact Nat.le_trans z1 hq
    · rw [h]; exact Nat.le_trans z1 hb0
    · rw [h]; exact Nat.le_trans z1 hg
    · rw [h]; exact Nat.le_trans z1 z2
    · rw [h]; exact Nat.le_trans z1 (Nat.le_trans z2 (Nat.le_succ _))
    · exact absurd hp (hno p c l)
end Go.Proofs.Ytendjhobemlhoaa
