/- The pure statement of SizeSums: for every two lists of int16 the printed function of the law answers true. No condition beyond those in the statement. -/
import Derived.Test.YtgjcidhjonhamaaPSizeSumsx2
import Derived.OpenShut
namespace Go.Proofs.Ytgjcidhjonhamaa.Pure
open Go.RowKit Go.Proofs.Ytgjcidhjonhamaa.PSizeSums Go.Proofs.YtgjcidhjonhamaaW.PrintWords Go.Proofs.YtgjcidhjonhamaaW.PrintLast


/-- The class of a number of words. -/
def cls (a : Int) : Int := if a < 1 then -1 else if a ≤ 2 then 0 else if a ≤ 4 then 1 else if a ≤ 8 then 2 else if a ≤ 16 then 3 else if a ≤ 32 then 4 else -1
/-- The pages of a larger block. -/
def pgs (a : Int) : Int := if a ≤ 32 then 0 else if a > 1024 then 0 else (a + 63) / 64
/-- The words of a block. -/
def blk (a : Int) : Int := if a < 1 then 0 else if a ≤ 2 then 2 else if a ≤ 4 then 4 else if a ≤ 8 then 8 else if a ≤ 16 then 16 else if a ≤ 32 then 32 else if a > 1024 then 0 else (a + 63) / 64 * 64

theorem w1 : wrap64 (0 + 1) = 1 := by unfold wrap64; omega
theorem w2 : wrap64 (1 + 1) = 2 := by unfold wrap64; omega
theorem w3 : wrap64 (2 + 1) = 3 := by unfold wrap64; omega
theorem w4 : wrap64 (3 + 1) = 4 := by unfold wrap64; omega
theorem w5 : wrap64 (4 + 1) = 5 := by unfold wrap64; omega
theorem r0 : rd [2, 4, 8, 16, 32] 0 = 2 := rfl
theorem r1 : rd [2, 4, 8, 16, 32] 1 = 4 := rfl
theorem r2 : rd [2, 4, 8, 16, 32] 2 = 8 := rfl
theorem r3 : rd [2, 4, 8, 16, 32] 3 = 16 := rfl
theorem r4 : rd [2, 4, 8, 16, 32] 4 = 32 := rfl
theorem ln : (([2, 4, 8, 16, 32] : List Int).length : Int) = 5 := rfl

theorem class7 (a : Int) : size_Class.f 7 a = some (cls a) := by
  unfold size_Class.f size_Sizes.f cls
  simp only [Option.bind_some, size_Class.l0, ln, w1, w2, w3, w4, w5, r0, r1, r2, r3, r4]
  simp only [show ((0 : Int) < 5) = True by decide, show ((1 : Int) < 5) = True by decide, show ((2 : Int) < 5) = True by decide, show ((3 : Int) < 5) = True by decide, show ((4 : Int) < 5) = True by decide, show ((5 : Int) < 5) = False by decide,
    show ((0 : Int) ≤ 0) = True by decide, show ((0 : Int) ≤ 1) = True by decide, show ((0 : Int) ≤ 2) = True by decide, show ((0 : Int) ≤ 3) = True by decide, show ((0 : Int) ≤ 4) = True by decide, if_true, if_false]
  by_cases h : a < 1
  · simp only [if_pos h]
  · simp only [if_neg h]
    repeat' split
    all_goals first | rfl | (exfalso; omega)

theorem class_at {k : Nat} (hk : 7 ≤ k) (a : Int) : size_Class.f k a = some (cls a) :=
  at_rounds (g := fun k => size_Class.f k a) (size_Class.mono a) hk (class7 a)

theorem cls_small {a : Int} (h : cls a ≥ 0) : 1 ≤ a ∧ a ≤ 32 := by
  unfold cls at h
  repeat' split at h
  all_goals omega
theorem cls_large {a : Int} (h : ¬ cls a ≥ 0) : a < 1 ∨ 32 < a := by
  unfold cls at h
  repeat' split at h
  all_goals omega

theorem pages_at {k : Nat} (hk : 7 ≤ k) (a : Int) : size_Pages.f k a = some (pgs a) := by
  unfold size_Pages.f pgs
  by_cases h1 : a < 1
  · rw [if_pos h1, if_pos (by omega)]
  · rw [if_neg h1]
    by_cases h2 : a > 1024
    · rw [if_pos h2, if_neg (by omega), if_pos h2]
    · rw [if_neg h2, class_at hk]
      simp only [Option.bind_some]
      by_cases h3 : cls a ≥ 0
      · have := cls_small h3
        rw [if_pos h3, if_pos (by omega)]
      · have := cls_large h3
        rw [if_neg h3, if_neg (by omega), if_neg h2]
        have e1 : wrap64 (a + 64) = a + 64 := by unfold wrap64; omega
        have e2 : wrap64 (a + 64 - 1) = a + 63 := by unfold wrap64; omega
        rw [e1, e2, Int.tdiv_eq_ediv_of_nonneg (by omega)]
        have e3 : wrap64 ((a + 63) / 64) = (a + 63) / 64 := by unfold wrap64; omega
        rw [e3]

theorem blk_class {a : Int} (h : cls a ≥ 0) : rd [2, 4, 8, 16, 32] (cls a) = blk a ∧ cls a < 5 := by
  have hs := cls_small h
  unfold cls blk
  repeat' split
  all_goals first | (exfalso; omega) | exact ⟨rfl, by decide⟩

theorem block_at {k : Nat} (hk : 7 ≤ k) (a : Int) : size_Block.f k a = some (blk a) := by
  unfold size_Block.f
  rw [class_at hk]
  simp only [Option.bind_some]
  by_cases h : cls a ≥ 0
  · obtain ⟨hb, h5⟩ := blk_class h
    rw [if_pos h]
    unfold size_Sizes.f
    simp only [Option.bind_some, ln]
    rw [if_pos h, if_pos h5, hb]
  · have hl := cls_large h
    rw [if_neg h, pages_at hk]
    simp only [Option.bind_some]
    congr 1
    unfold pgs blk
    repeat' split
    all_goals first | (exfalso; omega) | (unfold wrap64; omega)

theorem blk_bd (a : Int) : 0 ≤ blk a ∧ blk a ≤ 1024 := by
  unfold blk
  repeat' split
  all_goals omega

theorem awake_at {k : Nat} (hk : 7 ≤ k) : gloaminglaw4_awake.f k = some true := by
  unfold gloaminglaw4_awake.f
  rw [block_at hk, class_at hk, pages_at hk]
  rfl

/-- The sum, as the loop reckons it. -/
def sumw (s : Int) (l : List Int) : Int := l.foldl (fun s w => wrap64 (s + blk w)) s
theorem rd_at (l : List Int) (i : Nat) (h : i < l.length) : rd l (i : Int) = l[i] := by
  unfold rd
  simp [List.getD, h]
theorem sumw_drop (l : List Int) (s : Int) (i : Nat) (h : i < l.length) : sumw s (l.drop i) = sumw (wrap64 (s + blk l[i])) (l.drop (i + 1)) := by
  unfold sumw
  rw [List.drop_eq_getElem_cons h, List.foldl_cons]
theorem up (i : Nat) (h : i < 4611686018427387904) : wrap64 ((i : Int) + 1) = ((i + 1 : Nat) : Int) := by unfold wrap64; omega

theorem sum_l0 (l : List Int) (hl : l.length < 4611686018427387904) (d : Nat) : ∀ (k i : Nat) (s : Int), i + d = l.length → d + 8 ≤ k →
    size_Sum.l0 k s l (l.length : Int) (i : Int) = some (sumw s (l.drop i)) := by
  induction d with
  | zero =>
    intro k i s hi hk
    obtain ⟨k, rfl⟩ : ∃ m, k = m + 1 := ⟨k - 1, by omega⟩
    simp only [size_Sum.l0]
    rw [if_neg (by omega), List.drop_eq_nil_of_le (by omega)]
    rfl
  | succ d ih =>
    intro k i s hi hk
    obtain ⟨k, rfl⟩ : ∃ m, k = m + 1 := ⟨k - 1, by omega⟩
    have hlt : i < l.length := by omega
    simp only [size_Sum.l0]
    rw [if_pos (by omega), if_pos (by omega), if_pos (by omega), block_at (by omega)]
    simp only [Option.bind_some]
    rw [up i (by omega), ih k (i + 1) _ (by omega) (by omega), sumw_drop l s i hlt, rd_at l i hlt]

theorem sum_at {k : Nat} (l : List Int) (hl : l.length < 4611686018427387904) (hk : l.length + 8 ≤ k) : size_Sum.f k l = some (sumw 0 l) := by
  unfold size_Sum.f
  exact sum_l0 l hl l.length k 0 0 (by omega) hk

theorem same_l0 (l : List Int) (hl : l.length < 4611686018427387904) (d : Nat) : ∀ (k i : Nat), i + d = l.length → d + 1 ≤ k → gloamingref1_SameInts.l0 k l l (i : Int) = some true := by
  induction d with
  | zero =>
    intro k i hi hk
    obtain ⟨k, rfl⟩ : ∃ m, k = m + 1 := ⟨k - 1, by omega⟩
    simp only [gloamingref1_SameInts.l0]
    rw [if_neg (by omega)]
  | succ d ih =>
    intro k i hi hk
    obtain ⟨k, rfl⟩ : ∃ m, k = m + 1 := ⟨k - 1, by omega⟩
    simp only [gloamingref1_SameInts.l0]
    rw [if_pos (by omega), if_pos (by omega), if_pos (by omega), if_pos trivial, up i (by omega), ih k (i + 1) (by omega) (by omega)]
theorem same_at {k : Nat} (l : List Int) (hl : l.length < 4611686018427387904) (hk : l.length + 1 ≤ k) : gloamingref1_SameInts.f k l l = some true := by
  unfold gloamingref1_SameInts.f
  rw [if_pos rfl]
  exact same_l0 l hl l.length k 0 (by omega) hk

theorem sumw_eq (l : List Int) : ∀ s : Int, 0 ≤ s → s + 1024 * l.length < 4611686018427387904 → sumw s l = s + (l.map blk).sum ∧ 0 ≤ (l.map blk).sum ∧ (l.map blk).sum ≤ 1024 * l.length := by
  induction l with
  | nil => intro s h0 h; simp [sumw]
  | cons a l ih =>
    intro s h0 h
    have hb := blk_bd a
    simp only [List.length_cons] at h
    have e : wrap64 (s + blk a) = s + blk a := by unfold wrap64; omega
    obtain ⟨h1, h2, h3⟩ := ih (s + blk a) (by omega) (by omega)
    have hs : sumw s (a :: l) = sumw (wrap64 (s + blk a)) l := rfl
    rw [hs, e, h1]
    simp only [List.map_cons, List.sum_cons, List.length_cons]
    exact ⟨by omega, by omega, by omega⟩

theorem l1_at (b : List Int) (hb : b.length ≤ 60) (x : List Int) (hx : x.length ≤ 60) (d : Nat) : ∀ (k i : Nat) (y : List Int), i + d = b.length → y.length = i → d + 200 ≤ k →
    gloaminglaw4_SizeSums.l1 k b x y (i : Int) = some true := by
  induction d with
  | zero =>
    intro k i y hi hy hk
    obtain ⟨k, rfl⟩ : ∃ m, k = m + 1 := ⟨k - 1, by omega⟩
    simp only [gloaminglaw4_SizeSums.l1]
    rw [if_neg (by omega)]
    simp only [Option.bind_some, List.nil_append, List.length_nil]
    have hxy : (x ++ y).length = x.length + y.length := by simp
    rw [if_pos (by omega), if_pos (by omega), sum_at (x ++ y) (by omega) (by omega), sum_at x (by omega) (by omega), sum_at y (by omega) (by omega), sum_at [-5, 0, 2000] (by decide) (by simp; omega), awake_at (by omega)]
    unfold size_Sizes.f
    simp only [Option.bind_some, ln]
    obtain ⟨a1, a2, a3⟩ := sumw_eq (x ++ y) 0 (by omega) (by omega)
    obtain ⟨b1, b2, b3⟩ := sumw_eq x 0 (by omega) (by omega)
    obtain ⟨c1, c2, c3⟩ := sumw_eq y 0 (by omega) (by omega)
    have hs : ((x ++ y).map blk).sum = (x.map blk).sum + (y.map blk).sum := by simp
    have e : wrap64 (sumw 0 x + sumw 0 y) = sumw 0 x + sumw 0 y := by unfold wrap64; omega
    rw [if_pos trivial, if_pos (by decide), e, if_pos (by omega), if_pos (by omega), if_pos (by simp [sumw, blk, wrap64]), same_at _ (by decide) (by simp; omega)]
    simp
  | succ d ih =>
    intro k i y hi hy hk
    obtain ⟨k, rfl⟩ : ∃ m, k = m + 1 := ⟨k - 1, by omega⟩
    simp only [gloaminglaw4_SizeSums.l1]
    rw [if_pos (by omega), if_pos (by omega), if_pos (by omega), up i (by omega)]
    exact ih k (i + 1) _ (by omega) (by simp; omega) (by omega)

theorem l0_at (a b : List Int) (ha : a.length ≤ 60) (hb : b.length ≤ 60) (d : Nat) : ∀ (k i : Nat) (x : List Int), i + d = a.length → x.length = i → d + 300 ≤ k →
    gloaminglaw4_SizeSums.l0 k a b x (i : Int) = some true := by
  induction d with
  | zero =>
    intro k i x hi hx hk
    obtain ⟨k, rfl⟩ : ∃ m, k = m + 1 := ⟨k - 1, by omega⟩
    simp only [gloaminglaw4_SizeSums.l0]
    rw [if_neg (by omega)]
    exact l1_at b hb x (by omega) b.length k 0 [] (by omega) rfl (by omega)
  | succ d ih =>
    intro k i x hi hx hk
    obtain ⟨k, rfl⟩ : ∃ m, k = m + 1 := ⟨k - 1, by omega⟩
    simp only [gloaminglaw4_SizeSums.l0]
    rw [if_pos (by omega), if_pos (by omega), if_pos (by omega), up i (by omega)]
    exact ih k (i + 1) _ (by omega) (by simp; omega) (by omega)

theorem SizeSums : gloaminglaw4_SizeSums.Pure := by
  intro a b _ _ _ _ _ _
  refine ⟨400, ?_⟩
  have j : ∀ c : Bool, (c = false → a.length ≤ 60 ∧ b.length ≤ 60) → gloaminglaw4_SizeSums.j0 400 a b c = some true := by
    intro c hc
    simp only [gloaminglaw4_SizeSums.j0]
    cases c with
    | true => rw [if_pos rfl, awake_at (by omega)]; rfl
    | false =>
      obtain ⟨h1, h2⟩ := hc rfl
      rw [if_neg (by decide)]
      exact l0_at a b h1 h2 a.length _ 0 [] (by omega) rfl (by omega)
  unfold gloaminglaw4_SizeSums.f
  by_cases h : (a.length : Int) > 60
  · rw [if_pos h]; exact j true (fun e => by cases e)
  · rw [if_neg h]
    exact j _ (fun e => by simp at e; omega)

end Go.Proofs.Ytgjcidhjonhamaa.Pure
