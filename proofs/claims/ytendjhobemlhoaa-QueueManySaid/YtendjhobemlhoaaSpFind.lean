/- What is found in a space, and how a new block, or one that is given up, turns that. No program in sight. -/
import Derived.Test.YtendjhobemlhoaaEach
import Derived.Test.YtendjhobemlhoaaPages
namespace Go.Proofs.Ytendjhobemlhoaa
open Go Go.RowKit

def findIn (S : Sp) (z : Int) : Pst → Int × Int × Bool
  | .small c l => if hasB l (z % 64 / wordsOf c) then (z / 64 * 64 + z % 64 / wordsOf c * wordsOf c, wordsOf c, true) else (0, 0, false)
  | .first k => (z / 64 * 64, k * 64, true)
  | .rest f => (f * 64, manyOf (atP S.pg f) * 64, true)
  | _ => (0, 0, false)
theorem find_out {S : Sp} {z : Int} (h : z < 0 ∨ S.W.length ≤ z) : S.find z = (0, 0, false) := if_pos h
theorem find_in {S : Sp} {z : Int} (h0 : 0 ≤ z) (h1 : z < S.W.length) : S.find z = findIn S z (atP S.pg (z / 64).toNat) := by
  unfold Sp.find findIn
  rw [if_neg (by omega)]
  cases atP S.pg (z / 64).toNat <;> rfl
theorem small_div {c : Nat} (hc : c < 5) (o i : Int) : o / (wordsOf c : Nat) = i ↔ i * (wordsOf c : Nat) ≤ o ∧ o < i * (wordsOf c : Nat) + (wordsOf c : Nat) := by
  have : c = 0 ∨ c = 1 ∨ c = 2 ∨ c = 3 ∨ c = 4 := by omega
  rcases this with rfl | rfl | rfl | rfl | rfl <;> simp only [wordsOf] <;> omega
theorem small_lt {c : Nat} (hc : c < 5) {o : Int} (h0 : 0 ≤ o) (h1 : o < 64) : 0 ≤ o / (wordsOf c : Nat) ∧ o / (wordsOf c : Nat) < roomOf c ∧ 0 ≤ o / (wordsOf c : Nat) * (wordsOf c : Nat) ∧ o / (wordsOf c : Nat) * (wordsOf c : Nat) + (wordsOf c : Nat) ≤ 64 := by
  have : c = 0 ∨ c = 1 ∨ c = 2 ∨ c = 3 ∨ c = 4 := by omega
  rcases this with rfl | rfl | rfl | rfl | rfl <;> simp only [wordsOf, roomOf] <;> omega

/-- In pages that have not turned the same is found. -/
theorem find_same {S S' : Sp} {z : Int} (hl : S'.W.length = S.W.length) (h1 : atP S'.pg (z / 64).toNat = atP S.pg (z / 64).toNat) (h2 : ∀ f, atP S.pg (z / 64).toNat = .rest f → atP S'.pg f = atP S.pg f) : S'.find z = S.find z := by
  by_cases h : z < 0 ∨ S.W.length ≤ z
  · rw [find_out h, find_out (by rw [hl]; exact h)]
  · rw [find_in (S := S) (by omega) (by omega), find_in (S := S') (by omega) (by omega), h1]
    cases hx : atP S.pg (z / 64).toNat <;> try rfl
    simp only [findIn]
    rw [h2 _ hx]

theorem hasB_set {l : List Bool} {i : Nat} {b : Bool} {j : Int} (hi : i < l.length) (hj : 0 ≤ j) : hasB (l.set i b) j = if j = i then b else hasB l j := by
  rw [hasB_yes hj, hasB_yes hj, getD_set]
  by_cases h : i = j.toNat
  · rw [if_pos ⟨h, by omega⟩, if_pos (by omega)]
  · rw [if_neg (fun e => h e.1), if_neg (by omega)]

/-- A page's places turn at one place. -/
theorem find_bits {S : Sp} (h : S.WF) {p c i : Nat} {l : List Bool} {b : Bool} {W : List Int} (hp : atP S.pg p = .small c l) (hi : i < l.length) (hW : W.length = S.W.length) (z : Int) :
    (Sp.mk W (S.pg.set p (.small c (l.set i b)))).find z = if (p : Int) * 64 + (i : Int) * (wordsOf c : Nat) ≤ z ∧ z < (p : Int) * 64 + (i : Int) * (wordsOf c : Nat) + (wordsOf c : Nat) then
      (if b then ((p : Int) * 64 + (i : Int) * (wordsOf c : Nat), ((wordsOf c : Nat) : Int), true) else (0, 0, false)) else S.find z := by
  have hlt := atP_in hp (by simp)
  obtain ⟨hc, hll⟩ := h.small p c l hp
  have hfit := block_fits hc (show i < roomOf c by omega)
  have hlen := h.len
  have hA : ∀ j, atP (S.pg.set p (.small c (l.set i b))) j = if j = p then .small c (l.set i b) else atP S.pg j := fun j => atP_set _ hlt
  have hiw : ((i * wordsOf c : Nat) : Int) = (i : Int) * (wordsOf c : Nat) := Int.natCast_mul _ _
  have hwp := words_pos hc
  by_cases hout : z < 0 ∨ S.W.length ≤ z
  · rw [find_out (S := Sp.mk _ _) (by show z < 0 ∨ (W.length : Int) ≤ z; rw [hW]; exact hout), if_neg (by omega), find_out hout]
  · by_cases hq : (z / 64).toNat = p
    · have hS' := find_in (S := Sp.mk W (S.pg.set p (.small c (l.set i b)))) (z := z) (by omega) (by show z < (W.length : Int); omega)
      have hS := find_in (S := S) (z := z) (by omega) (by omega)
      rw [hS']
      show findIn _ z (atP (S.pg.set p _) (z / 64).toNat) = _
      rw [hA, if_pos hq]
      rw [hq, hp] at hS
      have hz : z = (p : Int) * 64 + z % 64 := by omega
      have hd := small_div hc (z % 64) i
      obtain ⟨d0, d1, d2, d3⟩ := small_lt hc (o := z % 64) (by omega) (by omega)
      simp only [findIn] at hS ⊢
      rw [hasB_set hi d0]
      by_cases hdi : z % 64 / (wordsOf c : Nat) = i
      · have := hd.1 hdi
        have hin : (p : Int) * 64 + (i : Int) * (wordsOf c : Nat) ≤ z ∧ z < (p : Int) * 64 + (i : Int) * (wordsOf c : Nat) + (wordsOf c : Nat) := by omega
        rw [if_pos hdi, if_pos hin, hdi]
        cases b
        · rfl
        · simp only [if_true]
          rw [show z / 64 = p from by omega]
      · have : ¬ ((p : Int) * 64 + (i : Int) * (wordsOf c : Nat) ≤ z ∧ z < (p : Int) * 64 + (i : Int) * (wordsOf c : Nat) + (wordsOf c : Nat)) := fun e => hdi (hd.2 (by omega))
        rw [if_neg hdi, if_neg this, hS]
    · rw [if_neg (by omega)]
      refine find_same hW ?_ fun f hf => ?_
      · show atP (S.pg.set p _) _ = _
        rw [hA, if_neg hq]
      · show atP (S.pg.set p _) _ = _
        rw [hA]
        split
        · rename_i e
          obtain ⟨_, k, hk, _⟩ := h.rest _ f hf
          rw [e, hp] at hk; cases hk
        · rfl
/-- A page turns from free to one of blocks, and back. -/
theorem find_page {S : Sp} (h : S.WF) {p : Nat} {x : Pst} {W : List Int} (hlt : p < S.pg.length) (hp : atP S.pg p = .free ∨ ∃ c l, atP S.pg p = .small c l) (hW : W.length = S.W.length) (z : Int) (hz : ¬ ((p : Int) * 64 ≤ z ∧ z < (p : Int) * 64 + 64)) :
    (Sp.mk W (S.pg.set p x)).find z = S.find z := by
  have hA : ∀ j, atP (S.pg.set p x) j = if j = p then x else atP S.pg j := fun j => atP_set _ hlt
  by_cases hout : z < 0 ∨ S.W.length ≤ z
  · rw [find_out (S := Sp.mk _ _) (by show z < 0 ∨ (W.length : Int) ≤ z; rw [hW]; exact hout), find_out hout]
  · refine find_same hW ?_ fun f hf => ?_
    · show atP (S.pg.set p _) _ = _
      rw [hA, if_neg (by omega)]
    · show atP (S.pg.set p _) _ = _
      rw [hA]
      split
      · rename_i e
        obtain ⟨_, k, hk, _⟩ := h.rest _ f hf
        rw [e] at hk
        rcases hp with h1 | ⟨_, _, h1⟩ <;> rw [h1] at hk <;> cases hk
      · rfl
theorem find_free {S : Sp} {z : Int} (h : atP S.pg (z / 64).toNat = .free) : S.find z = (0, 0, false) := by
  by_cases hout : z < 0 ∨ S.W.length ≤ z
  · exact find_out hout
  · rw [find_in (by omega) (by omega), h]; rfl

/-- What is found is a block that lies in the space behind page 0, and is found at each of its words. -/
theorem find_block {S : Sp} (h : S.WF) {z a m : Int} (hf : S.find z = (a, m, true)) : a ≤ z ∧ z < a + m ∧ 64 ≤ a ∧ a + m ≤ S.W.length ∧ ∀ y, a ≤ y → y < a + m → S.find y = (a, m, true) := by
  have hin : ¬ (z < 0 ∨ S.W.length ≤ z) := fun e => by rw [find_out e] at hf; cases hf
  have hlen := h.len
  rw [find_in (by omega) (by omega)] at hf
  have hq : ∀ p, (z / 64).toNat = p → p < S.pg.length := fun p e => by omega
  have hpos : ∀ q x, atP S.pg q = x → x ≠ .zero → 1 ≤ q := fun q x e hne => by
    rcases Nat.eq_zero_or_pos q with h0 | h0
    · exact absurd (e ▸ (h.zero q).2 h0) hne
    · exact h0
  cases hx : atP S.pg (z / 64).toNat <;> rw [hx] at hf <;> simp only [findIn] at hf
  case zero => cases hf
  case free => cases hf
  case small c l =>
    obtain ⟨hc, hll⟩ := h.small _ _ _ hx
    have h1 := hpos _ _ hx (by simp)
    obtain ⟨d0, d1, d2, d3⟩ := small_lt hc (o := z % 64) (by omega) (by omega)
    have hd := (small_div hc (z % 64) (z % 64 / (wordsOf c : Nat))).1 rfl
    by_cases hb : hasB l (z % 64 / (wordsOf c : Nat)) = true
    · rw [if_pos hb] at hf
      simp only [Prod.mk.injEq, and_true] at hf
      obtain ⟨rfl, rfl⟩ := hf
      refine ⟨by omega, by omega, by omega, by omega, fun y h2 h3 => ?_⟩
      have hy : y / 64 = z / 64 := by omega
      rw [find_in (by omega) (by omega), hy, hx]
      simp only [findIn]
      have hdy := (small_div hc (y % 64) (z % 64 / (wordsOf c : Nat))).2 (by omega)
      rw [hdy, if_pos hb, hy]
    · rw [if_neg hb] at hf; cases hf
  case first k =>
    simp only [Prod.mk.injEq, and_true] at hf
    obtain ⟨rfl, rfl⟩ := hf
    obtain ⟨h1, h2, h3⟩ := h.first _ _ hx
    have h0 := hpos _ _ hx (by simp)
    refine ⟨by omega, by omega, by omega, by omega, fun y h4 h5 => ?_⟩
    rw [find_in (by omega) (by omega)]
    by_cases e : (y / 64).toNat = (z / 64).toNat
    · rw [e, hx]; simp only [findIn]; rw [show y / 64 = z / 64 from by omega]
    · rw [h3 (y / 64).toNat (by omega) (by omega)]
      simp only [findIn]
      rw [hx]
      simp only [manyOf]
      rw [show (((z / 64).toNat : Nat) : Int) = z / 64 from by omega]
  case rest f =>
    simp only [Prod.mk.injEq, and_true] at hf
    obtain ⟨rfl, rfl⟩ := hf
    obtain ⟨h1, k, hk, h2⟩ := h.rest _ _ hx
    obtain ⟨g1, g2, g3⟩ := h.first _ _ hk
    have h0 := hpos _ _ hk (by simp)
    rw [hk]
    simp only [manyOf]
    refine ⟨by omega, by omega, by omega, by omega, fun y h4 h5 => ?_⟩
    rw [find_in (by omega) (by omega)]
    by_cases e : (y / 64).toNat = f
    · rw [e, hk]; simp only [findIn]; rw [show y / 64 = f from by omega]
    · rw [g3 (y / 64).toNat (by omega) (by omega)]
      simp only [findIn]
      rw [hk]
      simp only [manyOf]

/-- All blocks' beginnings, by what is found there. -/
theorem each_iff {S : Sp} (h : S.WF) {x : Int} : x ∈ S.each ↔ ∃ m, S.find x = (x, m, true) := by
  rw [each_mem]
  have hlen := h.len
  constructor
  · rintro ⟨p, hp, hx⟩
    have hr := starts_range h hx
    have hq : (x / 64).toNat = p := by omega
    rw [find_in (by omega) (by omega), hq]
    cases ha : atP S.pg p <;> rw [ha] at hx
    case small c l =>
      obtain ⟨hc, hl⟩ := h.small p c l ha
      simp only [startsOf, List.mem_map, List.mem_filter, List.mem_range] at hx
      obtain ⟨i, ⟨hi, hb⟩, rfl⟩ := hx
      have hfit := block_fits hc (show i < roomOf c by omega)
      have hiw : ((i * wordsOf c : Nat) : Int) = (i : Int) * (wordsOf c : Nat) := Int.natCast_mul _ _
      have hwp := words_pos hc
      have hd := (small_div hc (((p * 64 + i * wordsOf c : Nat) : Int) % 64) i).2 (by omega)
      refine ⟨wordsOf c, ?_⟩
      simp only [findIn]
      rw [hd, hasB_nat, if_pos hb]
      rw [show ((p * 64 + i * wordsOf c : Nat) : Int) / 64 = p from by omega]
      congr 1
    case first k =>
      simp only [startsOf, List.mem_singleton] at hx
      subst hx
      refine ⟨k * 64, ?_⟩
      simp only [findIn]
      rw [show ((p * 64 : Nat) : Int) / 64 = p from by omega]
      congr 1
    all_goals simp [startsOf] at hx
  · rintro ⟨m, hf⟩
    obtain ⟨h1, h2, h3, h4, _⟩ := find_block h hf
    refine ⟨(x / 64).toNat, by omega, ?_⟩
    rw [find_in (by omega) (by omega)] at hf
    cases ha : atP S.pg (x / 64).toNat <;> rw [ha] at hf <;> simp only [findIn] at hf
    case zero => cases hf
    case free => cases hf
    case small c l =>
      obtain ⟨hc, hll⟩ := h.small _ _ _ ha
      obtain ⟨d0, d1, d2, d3⟩ := small_lt hc (o := x % 64) (by omega) (by omega)
      by_cases hb : hasB l (x % 64 / (wordsOf c : Nat)) = true
      · rw [if_pos hb] at hf
        simp only [Prod.mk.injEq, and_true] at hf
        simp only [startsOf, List.mem_map, List.mem_filter, List.mem_range]
        refine ⟨(x % 64 / (wordsOf c : Nat)).toNat, ⟨by omega, by rw [← hasB_yes d0]; exact hb⟩, ?_⟩
        rw [Int.natCast_add, Int.natCast_mul, Int.natCast_mul]
        rw [Int.toNat_of_nonneg d0, Int.toNat_of_nonneg (by omega)]
        exact hf.1
      · rw [if_neg hb] at hf; cases hf
    case first k =>
      simp only [Prod.mk.injEq, and_true] at hf
      simp only [startsOf, List.mem_singleton]
      omega
    case rest f =>
      simp only [Prod.mk.injEq, and_true] at hf
      have := (h.rest _ _ ha).1
      omega
end Go.Proofs.Ytendjhobemlhoaa
