/- The pure statement of HeadRefuses: for every number and every place the printed function of the law answers true. No condition beyond those in the statement. -/
import Derived.Test.YtgjcidhjonhamaaPHeadRefusesx2
import Derived.OpenShut
namespace Go.Proofs.Ytgjcidhjonhamaa.Pure
open Go.RowKit Go.Proofs.Ytgjcidhjonhamaa.PHeadRefuses Go.Proofs.YtgjcidhjonhamaaW.PrintWords Go.Proofs.YtgjcidhjonhamaaW.PrintLast


/-- May a head of these numbers be? -/
def mayb (a b c : Int) (f : Bool) : Bool :=
  if c < 0 then false else if c > 1023 then false else
  if a = 1 then (if b < 1 then false else decide (b ≤ 256)) else
  if a = 2 then decide (b = 0) else if a = 3 then decide (b = 0) else
  if a = 4 then (if b < 1 then false else if b > 3 then false else if c = 5 then !f else false) else false
/-- The word of a head. -/
def word (a b c : Int) (f : Bool) : Int := a + 16 * b + 65536 * c + (if f = true then 8 else 0)

theorem w1 : wrap64 (0 + 1) = 1 := by unfold wrap64; omega
theorem w2 : wrap64 (0 + 2) = 2 := by unfold wrap64; omega
theorem w3 : wrap64 (2 + 1) = 3 := by unfold wrap64; omega
theorem in_at (n lo hi : Int) : head_in.f 3 n [lo, hi] = some (if n ≥ lo then decide (n ≤ hi) else false) := by
  unfold head_in.f
  simp only [head_in.l0, w1, w2, w3]
  have e0 : rd [lo, hi] 0 = lo := rfl
  have e1 : rd [lo, hi] 1 = hi := rfl
  have ln : (([lo, hi] : List Int).length : Int) = 2 := rfl
  rw [e0, e1, ln]
  simp only [show ((1 : Int) < 2) = True by decide, show ((0 : Int) ≤ 0) = True by decide, show ((0 : Int) < 2) = True by decide, show ((0 : Int) ≤ 1) = True by decide, show ((3 : Int) < 2) = False by decide, if_true, if_false]
  by_cases h : n ≥ lo
  · rw [if_pos h, if_pos h]
    by_cases h2 : n ≤ hi
    · rw [if_pos h2]; simp [h2]
    · rw [if_neg h2]; simp [h2]
  · rw [if_neg h, if_neg h]
theorem in_k {k : Nat} (hk : 3 ≤ k) (n lo hi : Int) : head_in.f k n [lo, hi] = some (if n ≥ lo then decide (n ≤ hi) else false) :=
  at_rounds (g := fun k => head_in.f k n [lo, hi]) (head_in.mono n [lo, hi]) hk (in_at n lo hi)

theorem may_at {k : Nat} (hk : 4 ≤ k) (a b c : Int) (f : Bool) : head_May.f k a b c f = some (mayb a b c f) := by
  obtain ⟨k, rfl⟩ : ∃ m, k = m + 1 := ⟨k - 1, by omega⟩
  unfold head_May.f mayb
  simp only [head_May.j0]
  rw [in_k (by omega), in_k (by omega), in_k (by omega), in_k (by omega)]
  simp only [Option.bind_some]
  by_cases h0 : c < 0
  · rw [if_neg (show ¬ c ≥ 0 by omega), if_pos h0, if_neg (by decide)]
  · rw [if_pos (show c ≥ 0 by omega), if_neg h0]
    by_cases h1 : c > 1023
    · rw [if_neg (by simp; omega), if_pos h1]
    · rw [if_pos (by simp; omega), if_neg h1]
      by_cases a1 : a = 1
      · rw [if_pos a1, if_pos a1]
        by_cases b1 : b < 1
        · rw [if_neg (show ¬ b ≥ 1 by omega), if_pos b1]
        · rw [if_pos (show b ≥ 1 by omega), if_neg b1]
      · rw [if_neg a1, if_neg a1]
        have hb : (if b ≥ 0 then decide (b ≤ 0) else false) = decide (b = 0) := by
          by_cases b0 : b ≥ 0
          · rw [if_pos b0]; simp; omega
          · rw [if_neg b0]; simp; omega
        rw [hb]
        by_cases a2 : a = 2
        · subst a2; simp
        · rw [if_neg a2, if_neg a2]
          by_cases a3 : a = 3
          · subst a3; simp
          · rw [if_neg (by simp [a3]), if_neg a3]
            by_cases a4 : a = 4
            · rw [if_pos a4, if_pos a4]
              by_cases b1 : b < 1
              · rw [if_neg (show ¬ b ≥ 1 by omega), if_pos b1, if_neg (by decide)]
              · rw [if_pos (show b ≥ 1 by omega), if_neg b1]
                by_cases b3 : b > 3
                · rw [if_neg (by simp; omega), if_pos b3]
                · rw [if_pos (by simp; omega), if_neg b3]
                  by_cases c5 : c = 5
                  · rw [if_pos c5, if_pos c5]
                  · rw [if_neg c5, if_neg c5]
            · rw [if_neg a4, if_neg a4]

theorem may_bd {a b c : Int} {f : Bool} (h : mayb a b c f = true) : 1 ≤ a ∧ a ≤ 4 ∧ 0 ≤ b ∧ b ≤ 256 ∧ 0 ≤ c ∧ c ≤ 1023 := by
  unfold mayb at h
  repeat' split at h
  all_goals simp at h
  all_goals omega

theorem word_w {a b c : Int} {f : Bool} (h : mayb a b c f = true) : 0 < word a b c f ∧ word a b c f < 67108864 := by
  obtain ⟨h1, h2, h3, h4, h5, h6⟩ := may_bd h
  unfold word
  split <;> omega

theorem put_at {k : Nat} (hk : 4 ≤ k) (a b c : Int) (f : Bool) : head_Put.f k a b c f = some (if mayb a b c f = true then (word a b c f, true) else (0, false)) := by
  unfold head_Put.f
  rw [may_at hk]
  simp only [Option.bind_some]
  by_cases h : mayb a b c f = true
  · obtain ⟨h1, h2, h3, h4, h5, h6⟩ := may_bd h
    rw [if_pos h, if_pos h]
    have e1 : wrap64 (16 * b) = 16 * b := by unfold wrap64; omega
    have e2 : wrap64 (65536 * c) = 65536 * c := by unfold wrap64; omega
    rw [e1, e2]
    have e3 : wrap64 (a + 16 * b) = a + 16 * b := by unfold wrap64; omega
    rw [e3]
    have e4 : wrap64 (a + 16 * b + 65536 * c) = a + 16 * b + 65536 * c := by unfold wrap64; omega
    rw [e4]
    unfold word
    cases f with
    | true =>
      rw [if_pos rfl, if_pos rfl]
      have e5 : wrap64 (a + 16 * b + 65536 * c + 8) = a + 16 * b + 65536 * c + 8 := by unfold wrap64; omega
      rw [e5]
    | false => rw [if_neg (by decide), if_neg (by decide), Int.add_zero]
  · rw [if_neg h, if_neg h]

/-- The four numbers of a word. -/
def kd (x : Int) : Int := x % 8
def cl (x : Int) : Int := x % 65536 / 16
def le (x : Int) : Int := x / 65536
def fi (x : Int) : Bool := decide (x / 8 % 2 = 1)
theorem word_back (x : Int) : word (kd x) (cl x) (le x) (fi x) = x := by
  unfold word kd cl le fi
  by_cases h : x / 8 % 2 = 1
  · rw [if_pos (by simp [h])]; omega
  · rw [if_neg (by simp [h])]; omega
/-- A word tells a head. -/
def got (x : Int) : Bool := if x < 0 then false else mayb (kd x) (cl x) (le x) (fi x)

theorem get_at {k : Nat} (hk : 4 ≤ k) (x : Int) (hx : x ≤ 9223372036854775807) :
    head_Get.f k x = some (if got x = true then (kd x, cl x, le x, fi x, true) else (0, 0, 0, false, false)) := by
  unfold head_Get.f got
  by_cases h : x < 0
  · rw [if_pos h, if_neg (by simp [h])]
  · rw [if_neg h, if_neg h, put_at hk]
    simp only [Option.bind_some]
    have e1 : Int.tmod x 8 = kd x := by unfold kd; rw [Int.tmod_eq_emod_of_nonneg (by omega)]
    have e2 : wrap64 (Int.tdiv (Int.tmod x 65536) 16) = cl x := by
      unfold cl
      rw [Int.tmod_eq_emod_of_nonneg (by omega), Int.tdiv_eq_ediv_of_nonneg (by omega)]
      unfold wrap64; omega
    have e3 : wrap64 (Int.tdiv x 65536) = le x := by
      unfold le
      rw [Int.tdiv_eq_ediv_of_nonneg (by omega)]
      unfold wrap64; omega
    have e4 : (Int.tmod (wrap64 (Int.tdiv x 8)) 2 == 1) = fi x := by
      unfold fi
      rw [Int.tdiv_eq_ediv_of_nonneg (by omega)]
      have : wrap64 (x / 8) = x / 8 := by unfold wrap64; omega
      rw [this, Int.tmod_eq_emod_of_nonneg (by omega)]
      rfl
    rw [e1, e2, e3, e4]
    by_cases m : mayb (kd x) (cl x) (le x) (fi x) = true
    · rw [if_pos m, if_pos m, if_pos rfl, word_back, if_pos rfl]
    · rw [if_neg m, if_neg m, if_neg (by decide)]

theorem kd_word {a b c : Int} {f : Bool} (h : mayb a b c f = true) : kd (word a b c f) = a ∧ cl (word a b c f) = b ∧ le (word a b c f) = c ∧ fi (word a b c f) = f := by
  obtain ⟨h1, h2, h3, h4, h5, h6⟩ := may_bd h
  unfold kd cl le fi word
  cases f with
  | true => rw [if_pos rfl]; refine ⟨by omega, by omega, by omega, by simp; omega⟩
  | false => rw [if_neg (by decide)]; refine ⟨by omega, by omega, by omega, by simp; omega⟩
theorem got_word {a b c : Int} {f : Bool} (h : mayb a b c f = true) : got (word a b c f) = true := by
  obtain ⟨e1, e2, e3, e4⟩ := kd_word h
  unfold got
  rw [if_neg (by have := word_w h; omega), e1, e2, e3, e4, h]
theorem got_small {x : Int} (h : got x = true) : 0 ≤ x ∧ x < 67108864 := by
  unfold got at h
  split at h
  · cases h
  · have := may_bd h
    unfold le at this
    omega
theorem awake_at {k : Nat} (hk : 4 ≤ k) : gloaminglaw8_awake.f k = some true := by
  unfold gloaminglaw8_awake.f
  rw [put_at hk, get_at hk 3 (by omega)]
  rfl

theorem HeadRefuses : gloaminglaw8_HeadRefuses.Pure := by
  intro n a1 w0 w1
  have b0 := bounds_i64 w0
  have b1 := bounds_u8 w1
  refine ⟨4, ?_⟩
  have hlow : mn n (-1) < 0 := by unfold mn; split <;> omega
  have hhigh : mx n 1024 > 1023 := by unfold mx; split <;> omega
  have hlow' : mn n (-1) ≤ 9223372036854775807 := by omega
  have e : wrap64 a1 = a1 := by unfold wrap64; omega
  unfold gloaminglaw8_HeadRefuses.f
  simp only [Option.bind_some]
  rw [e]
  generalize mn n (-1) = lo at *
  generalize mx n 1024 = hi at *
  have hg : head_Get.f 4 lo = some (0, 0, 0, false, false) := by
    rw [get_at (by omega) _ hlow', if_neg]
    unfold got
    rw [if_pos hlow]
    decide
  have hz : head_Get.f 4 0 = some (0, 0, 0, false, false) := by
    rw [get_at (by omega) _ (by omega), if_neg]
    decide
  have key : ∀ h : S36, mayb h.f0 h.f1 h.f2 h.f3 = false →
      ((head_Put.f 4 h.f0 h.f1 h.f2 h.f3).bind fun bt139 => ((head_Get.f 4 lo).bind fun bt141 => ((head_Get.f 4 0).bind fun bt147 => ((head_May.f 4 h.f0 h.f1 h.f2 h.f3).bind fun t153 => (if t153 = true then (some false) else (if bt139.1 = 0 then (if bt139.2 = true then (some false) else (if bt141.2.2.2.2 = true then (some false) else (if bt147.2.2.2.2 = true then (some false) else ((gloaminglaw8_awake.f 4).bind fun t154 => (some t154))))) else (some false))))))) = some true := by
    intro h hm
    rw [put_at (by omega), hg, hz, may_at (by omega), hm, awake_at (by omega)]
    rfl
  have hj : ∀ j : Nat, j < 14 → mayb (rd_T36 [⟨0, 0, 0, false⟩, ⟨5, 0, 0, false⟩, ⟨lo, 0, 0, false⟩, ⟨1, 0, 0, false⟩, ⟨1, 257, 0, false⟩, ⟨1, lo, 0, false⟩, ⟨2, 1, 0, false⟩, ⟨3, 1, 0, false⟩, ⟨3, 0, lo, false⟩, ⟨3, 0, hi, false⟩, ⟨4, 0, 5, false⟩, ⟨4, 4, 5, false⟩, ⟨4, 1, 4, false⟩, ⟨4, 1, 5, true⟩] (j : Int)).f0 (rd_T36 [⟨0, 0, 0, false⟩, ⟨5, 0, 0, false⟩, ⟨lo, 0, 0, false⟩, ⟨1, 0, 0, false⟩, ⟨1, 257, 0, false⟩, ⟨1, lo, 0, false⟩, ⟨2, 1, 0, false⟩, ⟨3, 1, 0, false⟩, ⟨3, 0, lo, false⟩, ⟨3, 0, hi, false⟩, ⟨4, 0, 5, false⟩, ⟨4, 4, 5, false⟩, ⟨4, 1, 4, false⟩, ⟨4, 1, 5, true⟩] (j : Int)).f1 (rd_T36 [⟨0, 0, 0, false⟩, ⟨5, 0, 0, false⟩, ⟨lo, 0, 0, false⟩, ⟨1, 0, 0, false⟩, ⟨1, 257, 0, false⟩, ⟨1, lo, 0, false⟩, ⟨2, 1, 0, false⟩, ⟨3, 1, 0, false⟩, ⟨3, 0, lo, false⟩, ⟨3, 0, hi, false⟩, ⟨4, 0, 5, false⟩, ⟨4, 4, 5, false⟩, ⟨4, 1, 4, false⟩, ⟨4, 1, 5, true⟩] (j : Int)).f2 (rd_T36 [⟨0, 0, 0, false⟩, ⟨5, 0, 0, false⟩, ⟨lo, 0, 0, false⟩, ⟨1, 0, 0, false⟩, ⟨1, 257, 0, false⟩, ⟨1, lo, 0, false⟩, ⟨2, 1, 0, false⟩, ⟨3, 1, 0, false⟩, ⟨3, 0, lo, false⟩, ⟨3, 0, hi, false⟩, ⟨4, 0, 5, false⟩, ⟨4, 4, 5, false⟩, ⟨4, 1, 4, false⟩, ⟨4, 1, 5, true⟩] (j : Int)).f3 = false := by
    intro j hj
    unfold mayb
    match j, hj with
    | 0, _ => rfl
    | 1, _ => rfl
    | 2, _ => simp [rd_T36]; intros; omega
    | 3, _ => rfl
    | 4, _ => rfl
    | 5, _ => simp [rd_T36]; intros; omega
    | 6, _ => rfl
    | 7, _ => rfl
    | 8, _ => simp [rd_T36]; intros; omega
    | 9, _ => simp [rd_T36]; intros; omega
    | 10, _ => rfl
    | 11, _ => rfl
    | 12, _ => rfl
    | 13, _ => rfl
  have hl : ([⟨0, 0, 0, false⟩, ⟨5, 0, 0, false⟩, ⟨lo, 0, 0, false⟩, ⟨1, 0, 0, false⟩, ⟨1, 257, 0, false⟩, ⟨1, lo, 0, false⟩, ⟨2, 1, 0, false⟩, ⟨3, 1, 0, false⟩, ⟨3, 0, lo, false⟩, ⟨3, 0, hi, false⟩, ⟨4, 0, 5, false⟩, ⟨4, 4, 5, false⟩, ⟨4, 1, 4, false⟩, ⟨4, 1, 5, true⟩] : List S36).length = 14 := rfl
  generalize ([⟨0, 0, 0, false⟩, ⟨5, 0, 0, false⟩, ⟨lo, 0, 0, false⟩, ⟨1, 0, 0, false⟩, ⟨1, 257, 0, false⟩, ⟨1, lo, 0, false⟩, ⟨2, 1, 0, false⟩, ⟨3, 1, 0, false⟩, ⟨3, 0, lo, false⟩, ⟨3, 0, hi, false⟩, ⟨4, 0, 5, false⟩, ⟨4, 4, 5, false⟩, ⟨4, 1, 4, false⟩, ⟨4, 1, 5, true⟩] : List S36) = l at *
  rw [hl, if_neg (by decide), Int.tmod_eq_emod_of_nonneg b1.1, if_pos (by omega), if_pos (by omega)]
  have hjj := hj (a1 % 14).toNat (by omega)
  rw [show (((a1 % 14).toNat : Nat) : Int) = a1 % ((14 : Nat) : Int) from by omega] at hjj
  exact key _ hjj

end Go.Proofs.Ytgjcidhjonhamaa.Pure
