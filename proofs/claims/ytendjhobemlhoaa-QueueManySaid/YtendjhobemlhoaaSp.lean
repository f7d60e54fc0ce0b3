/- A space as a list of pages: what is allocated, freed, found. No program in sight. -/
import Derived.Test.YtendjhobemlhoaaSize
import Derived.Test.YtendjhobemlhoaaBlock
import Derived.Test.YtendjhobemlhoaaRange
namespace Go.Proofs.Ytendjhobemlhoaa
open Go Go.RowKit

/-- What a page is: page 0; free; one of blocks of a class; the first one of a larger block of so many pages; another one of the block that begins at a page. -/
inductive Pst where
  | zero
  | free
  | small (c : Nat) (l : List Bool)
  | first (k : Nat)
  | rest (f : Nat)
structure Sp where
  W : List Int
  pg : List Pst
def Pst.taken : Pst → Bool
  | .free => false
  | _ => true
def isOpen (c : Nat) : Pst → Bool
  | .small c' l => decide (c' = c) && !decide (countB l = l.length)
  | _ => false
def bitsOf (pg : List Pst) : List Bool := pg.map Pst.taken
def openZ (pg : List Pst) (c : Nat) : Int := nextZ (pg.map (isOpen c)) true 0
abbrev atP (pg : List Pst) (p : Nat) : Pst := pg.getD p .free
def putLarge (pg : List Pst) (p k : Nat) : List Pst := (List.range pg.length).map fun j => if j = p then .first k else if p < j ∧ j < p + k then .rest p else atP pg j
def clearPg (pg : List Pst) (p k : Nat) : List Pst := (List.range pg.length).map fun j => if p ≤ j ∧ j < p + k then .free else atP pg j
def firstOne (n : Nat) : List Bool := (List.replicate n false).set 0 true

structure Sp.WF (S : Sp) : Prop where
  n1 : 1 ≤ S.pg.length
  n2 : S.pg.length ≤ 256
  len : S.W.length = S.pg.length * 64
  zero : ∀ p, atP S.pg p = .zero ↔ p = 0
  small : ∀ p c l, atP S.pg p = .small c l → c < 5 ∧ l.length = roomOf c
  first : ∀ p k, atP S.pg p = .first k → 1 ≤ k ∧ p + k ≤ S.pg.length ∧ ∀ j, p < j → j < p + k → atP S.pg j = .rest p
  rest : ∀ j f, atP S.pg j = .rest f → f < j ∧ ∃ k, atP S.pg f = .first k ∧ j < f + k

section
variable {pg : List Pst} {p k j : Nat}
theorem atP_out (h : pg.length ≤ p) : atP pg p = .free := by unfold atP; rw [List.getD_eq_getElem?_getD, List.getElem?_eq_none h]; rfl
theorem atP_in {x : Pst} (h : atP pg p = x) (hx : x ≠ .free) : p < pg.length := by
  rcases Nat.lt_or_ge p pg.length with h1 | h1
  · exact h1
  · rw [atP_out h1] at h; exact absurd h.symm hx
theorem atP_get {x : Pst} (h : atP pg p = x) (hx : x ≠ .free) : pg[p]? = some x := by
  have := atP_in h hx
  unfold atP at h
  rw [List.getD_eq_getElem?_getD, List.getElem?_eq_getElem this] at h
  rw [List.getElem?_eq_getElem this]
  exact congrArg some h
theorem atP_of {x : Pst} (h : pg[p]? = some x) : atP pg p = x := by unfold atP; rw [List.getD_eq_getElem?_getD, h]; rfl
theorem atP_set (x : Pst) (hp : p < pg.length) : atP (pg.set p x) j = if j = p then x else atP pg j := by
  unfold atP
  rw [List.getD_eq_getElem?_getD, List.getD_eq_getElem?_getD, List.getElem?_set]
  by_cases h : p = j
  · subst h; rw [if_pos rfl, if_pos hp, if_pos rfl]; rfl
  · rw [if_neg h, if_neg (Ne.symm h)]
theorem atP_map (n : Nat) (f : Nat → Pst) (h : ∀ j, n ≤ j → f j = .free) : atP ((List.range n).map f) j = f j := by
  unfold atP
  rw [List.getD_eq_getElem?_getD, List.getElem?_map]
  rcases Nat.lt_or_ge j n with h1 | h1
  · rw [List.getElem?_range h1]; rfl
  · rw [List.getElem?_eq_none (by simpa using h1), h j h1]; rfl
theorem atP_large (h : p + k ≤ pg.length) (hk : 1 ≤ k) : atP (putLarge pg p k) j = if j = p then .first k else if p < j ∧ j < p + k then .rest p else atP pg j := by
  unfold putLarge
  rw [atP_map]
  intro j hj
  rw [if_neg (by omega), if_neg (by omega), atP_out hj]
theorem atP_clear (h : p + k ≤ pg.length) : atP (clearPg pg p k) j = if p ≤ j ∧ j < p + k then .free else atP pg j := by
  unfold clearPg
  rw [atP_map]
  intro j hj
  rw [if_neg (by omega), atP_out hj]
theorem putLarge_length : (putLarge pg p k).length = pg.length := by simp [putLarge]
theorem clearPg_length : (clearPg pg p k).length = pg.length := by simp [clearPg]
theorem bits_length : (bitsOf pg).length = pg.length := by simp [bitsOf]
theorem bits_get : (bitsOf pg).getD j false = (atP pg j).taken := by
  unfold bitsOf atP
  rw [List.getD_eq_getElem?_getD, List.getD_eq_getElem?_getD, List.getElem?_map]
  cases pg[j]? <;> rfl
theorem bits_set (x : Pst) : bitsOf (pg.set p x) = (bitsOf pg).set p x.taken := by simp [bitsOf, List.map_set]
theorem bits_large (h : p + k ≤ pg.length) (hk : 1 ≤ k) : bitsOf (putLarge pg p k) = span (bitsOf pg) true p k := by
  refine ext_getD (by rw [bits_length, putLarge_length, span_length, bits_length]) fun j hj => ?_
  rw [bits_length, putLarge_length] at hj
  rw [bits_get, atP_large h hk, span_get _ _ _ _ _ (by rw [bits_length]; exact hj), bits_get]
  by_cases h1 : j = p
  · rw [if_pos h1, if_pos (by omega)]; rfl
  · rw [if_neg h1]
    by_cases h2 : p < j ∧ j < p + k
    · rw [if_pos h2, if_pos (by omega)]; rfl
    · rw [if_neg h2, if_neg (by omega)]
theorem bits_clear (h : p + k ≤ pg.length) : bitsOf (clearPg pg p k) = span (bitsOf pg) false p k := by
  refine ext_getD (by rw [bits_length, clearPg_length, span_length, bits_length]) fun j hj => ?_
  rw [bits_length, clearPg_length] at hj
  rw [bits_get, atP_clear h, span_get _ _ _ _ _ (by rw [bits_length]; exact hj), bits_get]
  by_cases h1 : p ≤ j ∧ j < p + k
  · rw [if_pos h1, if_pos h1]; rfl
  · rw [if_neg h1, if_neg h1]
theorem open_get (c : Nat) : (pg.map (isOpen c)).getD j false = isOpen c (atP pg j) := by
  unfold atP
  rw [List.getD_eq_getElem?_getD, List.getD_eq_getElem?_getD, List.getElem?_map]
  cases pg[j]? <;> rfl
end

/-- The class's first open page, by what it is. -/
theorem openZ_hit {pg : List Pst} {c p : Nat} (h : isOpen c (atP pg p) = true) (h0 : ∀ j, j < p → isOpen c (atP pg j) = false) : openZ pg c = p := by
  refine nextZ_eq (.inr ⟨p, rfl, by omega, ?_, by rw [open_get]; exact h, fun j _ hj => by rw [open_get, h0 j hj]; simp⟩)
  rw [List.length_map]
  rcases Nat.lt_or_ge p pg.length with h1 | h1
  · exact h1
  · rw [atP_out h1] at h; cases h
theorem openZ_miss {pg : List Pst} {c : Nat} (h0 : ∀ j, j < pg.length → isOpen c (atP pg j) = false) : openZ pg c = -1 :=
  nextZ_eq (.inl ⟨rfl, fun j _ hj => by rw [open_get, h0 j (by simpa using hj)]; simp⟩)
theorem openZ_cases (pg : List Pst) (c : Nat) : (openZ pg c = -1 ∧ ∀ j, isOpen c (atP pg j) = false) ∨ ∃ p : Nat, openZ pg c = p ∧ p < pg.length ∧ isOpen c (atP pg p) = true ∧ ∀ j, j < p → isOpen c (atP pg j) = false := by
  rcases isNext_nextZ (pg.map (isOpen c)) true 0 with ⟨h1, h2⟩ | ⟨p, h1, _, h3, h4, h5⟩
  · refine .inl ⟨h1, fun j => ?_⟩
    rcases Nat.lt_or_ge j pg.length with hj | hj
    · have := h2 j (Nat.zero_le _) (by simpa using hj)
      rw [open_get] at this
      simpa using this
    · rw [atP_out hj]; rfl
  · refine .inr ⟨p, h1, by simpa using h3, by rw [← open_get]; exact h4, fun j hj => ?_⟩
    have := h5 j (Nat.zero_le _) hj
    rw [open_get] at this
    simpa using this
theorem open_small {c : Nat} {x : Pst} (h : isOpen c x = true) : ∃ l, x = .small c l ∧ countB l ≠ l.length := by
  cases x <;> simp [isOpen] at h
  rename_i c' l
  obtain ⟨rfl, h⟩ := h
  exact ⟨l, rfl, h⟩

theorem next_of_count {l : List Bool} (h : countB l ≠ l.length) : ∃ i : Nat, nextZ l false 0 = i ∧ i < l.length ∧ l.getD i false = false := by
  rcases isNext_nextZ l false 0 with ⟨h1, h2⟩ | ⟨i, h1, _, h3, h4, _⟩
  · exfalso
    refine h (List.count_eq_length.2 fun b hb => ?_)
    obtain ⟨j, hj, rfl⟩ := List.mem_iff_getElem.1 hb
    have := h2 j (Nat.zero_le _) hj
    rw [List.getD_eq_getElem?_getD, List.getElem?_eq_getElem hj] at this
    simpa using this
  · exact ⟨i, h1, h3, h4⟩

/-! ### what is done -/
def listOf : Pst → List Bool
  | .small _ l => l
  | _ => []
def manyOf : Pst → Nat
  | .first k => k
  | _ => 0
/-- A block is made: the space behind it, the address, the error. -/
def Sp.alloc (S : Sp) (words : Int) : Sp × Int × Int :=
  if blockZ words = 0 then (S, 0, 1)
  else if classZ words < 0 then
    if runZ (bitsOf S.pg) 0 (pagesZ words) < 0 then (S, 0, 3)
    else (⟨filledAt S.W ((runZ (bitsOf S.pg) 0 (pagesZ words)).toNat * 64) ((pagesZ words).toNat * 64), putLarge S.pg (runZ (bitsOf S.pg) 0 (pagesZ words)).toNat (pagesZ words).toNat⟩, (runZ (bitsOf S.pg) 0 (pagesZ words)) * 64, 0)
  else if 0 ≤ openZ S.pg (classZ words).toNat then
    (⟨filledAt S.W ((openZ S.pg (classZ words).toNat).toNat * 64 + (nextZ (listOf (atP S.pg (openZ S.pg (classZ words).toNat).toNat)) false 0).toNat * wordsOf (classZ words).toNat) (wordsOf (classZ words).toNat),
      S.pg.set (openZ S.pg (classZ words).toNat).toNat (.small (classZ words).toNat ((listOf (atP S.pg (openZ S.pg (classZ words).toNat).toNat)).set (nextZ (listOf (atP S.pg (openZ S.pg (classZ words).toNat).toNat)) false 0).toNat true))⟩,
      (openZ S.pg (classZ words).toNat) * 64 + nextZ (listOf (atP S.pg (openZ S.pg (classZ words).toNat).toNat)) false 0 * wordsOf (classZ words).toNat, 0)
  else if runZ (bitsOf S.pg) 0 1 < 0 then (S, 0, 3)
  else (⟨filledAt S.W ((runZ (bitsOf S.pg) 0 1).toNat * 64) (wordsOf (classZ words).toNat), S.pg.set (runZ (bitsOf S.pg) 0 1).toNat (.small (classZ words).toNat (firstOne (roomOf (classZ words).toNat)))⟩, (runZ (bitsOf S.pg) 0 1) * 64, 0)

/-- The block in which an address lies: where it begins, its words, whether there is one. -/
def Sp.find (S : Sp) (a : Int) : Int × Int × Bool :=
  if a < 0 ∨ S.W.length ≤ a then (0, 0, false)
  else match atP S.pg (a / 64).toNat with
    | .small c l => if hasB l (a % 64 / wordsOf c) then (a / 64 * 64 + a % 64 / wordsOf c * wordsOf c, wordsOf c, true) else (0, 0, false)
    | .first k => (a / 64 * 64, k * 64, true)
    | .rest f => (f * 64, manyOf (atP S.pg f) * 64, true)
    | _ => (0, 0, false)

/-- A block is given up: the space behind it, the error. -/
def Sp.drop (S : Sp) (a : Int) : Sp × Int :=
  if (S.find a).2.2 = false ∨ (S.find a).1 ≠ a then (S, 2)
  else match atP S.pg (a / 64).toNat with
    | .small c l => if countB (l.set (a % 64 / wordsOf c).toNat false) = 0 then (⟨S.W, S.pg.set (a / 64).toNat .free⟩, 0) else (⟨S.W, S.pg.set (a / 64).toNat (.small c (l.set (a % 64 / wordsOf c).toNat false))⟩, 0)
    | .first k => (⟨S.W, clearPg S.pg (a / 64).toNat k⟩, 0)
    | _ => (S, 2)

/-- Where a page's blocks begin. -/
def startsOf (p : Nat) : Pst → List Int
  | .small c l => ((List.range l.length).filter (fun i => l.getD i false)).map fun i => ((p * 64 + i * wordsOf c : Nat) : Int)
  | .first _ => [((p * 64 : Nat) : Int)]
  | _ => []
def Sp.each (S : Sp) : List Int := (List.range S.pg.length).flatMap fun p => startsOf p (atP S.pg p)
def Sp.used (S : Sp) : Int := (S.each.map fun a => (S.find a).2.1).sum
def newSp (n : Nat) : Sp := ⟨List.replicate (n * 64) 0, (List.replicate n .free).set 0 .zero⟩

/-! ### what stays so -/
theorem firstOne_length (n : Nat) : (firstOne n).length = n := by simp [firstOne]
theorem words_room {c : Nat} (h : c < 5) : wordsOf c * roomOf c = 64 := by
  have : c = 0 ∨ c = 1 ∨ c = 2 ∨ c = 3 ∨ c = 4 := by omega
  rcases this with rfl | rfl | rfl | rfl | rfl <;> decide
theorem words_pos {c : Nat} (h : c < 5) : 2 ≤ wordsOf c ∧ wordsOf c ≤ 32 := by
  have : c = 0 ∨ c = 1 ∨ c = 2 ∨ c = 3 ∨ c = 4 := by omega
  rcases this with rfl | rfl | rfl | rfl | rfl <;> decide
theorem room_pos {c : Nat} (h : c < 5) : 2 ≤ roomOf c ∧ roomOf c ≤ 32 := by
  have : c = 0 ∨ c = 1 ∨ c = 2 ∨ c = 3 ∨ c = 4 := by omega
  rcases this with rfl | rfl | rfl | rfl | rfl <;> decide
theorem words_inj {c c' : Nat} (h : c < 5) (h' : c' < 5) (e : wordsOf c = wordsOf c') : c = c' := by
  have h1 : c = 0 ∨ c = 1 ∨ c = 2 ∨ c = 3 ∨ c = 4 := by omega
  have h2 : c' = 0 ∨ c' = 1 ∨ c' = 2 ∨ c' = 3 ∨ c' = 4 := by omega
  rcases h1 with rfl | rfl | rfl | rfl | rfl <;> rcases h2 with rfl | rfl | rfl | rfl | rfl <;> first | rfl | (exact absurd e (by decide))
theorem block_fits {c i : Nat} (h : c < 5) (hi : i < roomOf c) : i * wordsOf c + wordsOf c ≤ 64 := by
  have h1 : (i + 1) * wordsOf c ≤ roomOf c * wordsOf c := Nat.mul_le_mul_right _ hi
  have h2 := words_room h
  rw [Nat.mul_comm] at h2
  rw [Nat.add_mul] at h1
  omega

theorem newSp_wf {n : Nat} (h1 : 1 ≤ n) (h2 : n ≤ 256) : (newSp n).WF := by
  have hat : ∀ p, atP (newSp n).pg p = if p = 0 then .zero else .free := fun p => by
    unfold newSp
    rw [atP_set _ (by simp; omega)]
    by_cases h : p = 0
    · rw [if_pos h, if_pos h]
    · rw [if_neg h, if_neg h]
      unfold atP
      rw [List.getD_eq_getElem?_getD, List.getElem?_replicate]
      split <;> rfl
  have hl : (newSp n).pg.length = n := by simp [newSp]
  refine ⟨by omega, by omega, by rw [hl]; simp [newSp], fun p => ?_, fun p c l h => ?_, fun p k h => ?_, fun p f h => ?_⟩
  · rw [hat]
    by_cases h : p = 0
    · simp [h]
    · simp [h]
  all_goals
    rw [hat] at h
    split at h <;> cases h

/-- A page is turned to one of blocks. -/
theorem Sp.WF.set_small {S : Sp} (h : S.WF) {p c : Nat} {l : List Bool} {W : List Int} (hp : p < S.pg.length) (hat : atP S.pg p = .free ∨ ∃ c' l', atP S.pg p = .small c' l') (hc : c < 5) (hl : l.length = roomOf c) (hW : W.length = S.W.length) : (Sp.mk W (S.pg.set p (.small c l))).WF := by
  have h0 : p ≠ 0 := fun e => by
    have := (h.zero p).2 e
    rcases hat with h1 | ⟨_, _, h1⟩ <;> rw [this] at h1 <;> cases h1
  refine ⟨by simpa using h.n1, by simpa using h.n2, by simpa [hW] using h.len, fun q => ?_, fun q c' l' hq => ?_, fun q k hq => ?_, fun q f hq => ?_⟩
  · show atP (S.pg.set p _) q = _ ↔ _
    rw [atP_set _ hp]
    by_cases e : q = p
    · rw [if_pos e]; subst e; simp [h0]
    · rw [if_neg e]; exact h.zero q
  · have hq : atP (S.pg.set p (.small c l)) q = .small c' l' := hq
    rw [atP_set _ hp] at hq
    split at hq
    · cases hq; exact ⟨hc, hl⟩
    · exact h.small q c' l' hq
  · have hq : atP (S.pg.set p (.small c l)) q = .first k := hq
    rw [atP_set _ hp] at hq
    split at hq
    · cases hq
    · obtain ⟨g1, g2, g3⟩ := h.first q k hq
      refine ⟨g1, by simpa using g2, fun j hj1 hj2 => ?_⟩
      show atP (S.pg.set p _) j = _
      rw [atP_set _ hp]
      by_cases e : j = p
      · subst e
        have := g3 j hj1 hj2
        rcases hat with h1 | ⟨_, _, h1⟩ <;> rw [this] at h1 <;> cases h1
      · rw [if_neg e]; exact g3 j hj1 hj2
  · have hq : atP (S.pg.set p (.small c l)) q = .rest f := hq
    rw [atP_set _ hp] at hq
    split at hq
    · cases hq
    · obtain ⟨g1, k, g2, g3⟩ := h.rest q f hq
      refine ⟨g1, k, ?_, g3⟩
      show atP (S.pg.set p _) f = _
      rw [atP_set _ hp]
      by_cases e : f = p
      · subst e
        rcases hat with h1 | ⟨_, _, h1⟩ <;> rw [g2] at h1 <;> cases h1
      · rw [if_neg e]; exact g2
theorem Sp.WF.set_free {S : Sp} (h : S.WF) {p c : Nat} {l : List Bool} (hat : atP S.pg p = .small c l) : (Sp.mk S.W (S.pg.set p .free)).WF := by
  have hp := atP_in hat (by simp)
  have h0 : p ≠ 0 := fun e => by
    have := (h.zero p).2 e
    rw [this] at hat; cases hat
  refine ⟨by simpa using h.n1, by simpa using h.n2, by simpa using h.len, fun q => ?_, fun q c' l' hq => ?_, fun q k hq => ?_, fun q f hq => ?_⟩
  · show atP (S.pg.set p _) q = _ ↔ _
    rw [atP_set _ hp]
    by_cases e : q = p
    · rw [if_pos e]; subst e; simp [h0]
    · rw [if_neg e]; exact h.zero q
  · have hq : atP (S.pg.set p .free) q = .small c' l' := hq
    rw [atP_set _ hp] at hq
    split at hq
    · cases hq
    · exact h.small q c' l' hq
  · have hq : atP (S.pg.set p .free) q = .first k := hq
    rw [atP_set _ hp] at hq
    split at hq
    · cases hq
    · obtain ⟨g1, g2, g3⟩ := h.first q k hq
      refine ⟨g1, by simpa using g2, fun j hj1 hj2 => ?_⟩
      show atP (S.pg.set p _) j = _
      rw [atP_set _ hp]
      by_cases e : j = p
      · subst e
        have := g3 j hj1 hj2
        rw [this] at hat; cases hat
      · rw [if_neg e]; exact g3 j hj1 hj2
  · have hq : atP (S.pg.set p .free) q = .rest f := hq
    rw [atP_set _ hp] at hq
    split at hq
    · cases hq
    · obtain ⟨g1, k, g2, g3⟩ := h.rest q f hq
      refine ⟨g1, k, ?_, g3⟩
      show atP (S.pg.set p _) f = _
      rw [atP_set _ hp]
      by_cases e : f = p
      · subst e
        rw [g2] at hat; cases hat
      · rw [if_neg e]; exact g2
theorem Sp.WF.put_large {S : Sp} (h : S.WF) {p k : Nat} {W : List Int} (hpk : p + k ≤ S.pg.length) (hk : 1 ≤ k) (hat : ∀ j, p ≤ j → j < p + k → atP S.pg j = .free) (hW : W.length = S.W.length) : (Sp.mk W (putLarge S.pg p k)).WF := by
  have hA : ∀ j, atP (putLarge S.pg p k) j = if j = p then .first k else if p < j ∧ j < p + k then .rest p else atP S.pg j := fun j => atP_large hpk hk
  have h0 : p ≠ 0 := fun e => by
    have h1 := (h.zero p).2 e
    rw [hat p (by omega) (by omega)] at h1
    cases h1
  refine ⟨by simpa [putLarge_length] using h.n1, by simpa [putLarge_length] using h.n2, by simpa [putLarge_length, hW] using h.len, fun q => ?_, fun q c' l' hq => ?_, fun q k' hq => ?_, fun q f hq => ?_⟩
  · show atP (putLarge S.pg p k) q = _ ↔ _
    rw [hA]
    by_cases e : q = p
    · rw [if_pos e]; subst e; simp [h0]
    · rw [if_neg e]
      by_cases e2 : p < q ∧ q < p + k
      · rw [if_pos e2]; simp; omega
      · rw [if_neg e2]; exact h.zero q
  · have hq : atP (putLarge S.pg p k) q = .small c' l' := hq
    rw [hA] at hq
    split at hq
    · cases hq
    · split at hq
      · cases hq
      · exact h.small q c' l' hq
  · have hq : atP (putLarge S.pg p k) q = .first k' := hq
    show 1 ≤ k' ∧ q + k' ≤ (putLarge S.pg p k).length ∧ _
    rw [putLarge_length]
    rw [hA] at hq
    split at hq
    · rename_i e
      cases hq
      subst e
      refine ⟨hk, hpk, fun j hj1 hj2 => ?_⟩
      show atP (putLarge S.pg q k) j = _
      rw [hA, if_neg (by omega), if_pos ⟨hj1, hj2⟩]
    · split at hq
      · cases hq
      · rename_i e1 e2
        obtain ⟨g1, g2, g3⟩ := h.first q k' hq
        refine ⟨g1, g2, fun j hj1 hj2 => ?_⟩
        show atP (putLarge S.pg p k) j = _
        have hj := g3 j hj1 hj2
        rw [hA]
        by_cases e3 : p ≤ j ∧ j < p + k
        · rw [hat j e3.1 e3.2] at hj; cases hj
        · rw [if_neg (by omega), if_neg (by omega)]; exact hj
  · have hq : atP (putLarge S.pg p k) q = .rest f := hq
    rw [hA] at hq
    split at hq
    · cases hq
    · split at hq
      · rename_i e1 e2
        cases hq
        refine ⟨e2.1, k, ?_, e2.2⟩
        show atP (putLarge S.pg p k) p = _
        rw [hA, if_pos rfl]
      · obtain ⟨g1, k', g2, g3⟩ := h.rest q f hq
        refine ⟨g1, k', ?_, g3⟩
        show atP (putLarge S.pg p k) f = _
        rw [hA]
        by_cases e3 : p ≤ f ∧ f < p + k
        · rw [hat f e3.1 e3.2] at g2; cases g2
        · rw [if_neg (by omega), if_neg (by omega)]; exact g2
theorem Sp.WF.clear {S : Sp} (h : S.WF) {p k : Nat} (hat : atP S.pg p = .first k) : (Sp.mk S.W (clearPg S.pg p k)).WF := by
  obtain ⟨hk, hpk, hr⟩ := h.first p k hat
  have hA : ∀ j, atP (clearPg S.pg p k) j = if p ≤ j ∧ j < p + k then .free else atP S.pg j := fun j => atP_clear hpk
  have hin : ∀ j, p ≤ j → j < p + k → atP S.pg j = .first k ∧ j = p ∨ atP S.pg j = .rest p := fun j h1 h2 => by
    by_cases e : j = p
    · subst e; exact .inl ⟨hat, rfl⟩
    · exact .inr (hr j (by omega) h2)
  refine ⟨by simpa [clearPg_length] using h.n1, by simpa [clearPg_length] using h.n2, by simpa [clearPg_length] using h.len, fun q => ?_, fun q c' l' hq => ?_, fun q k' hq => ?_, fun q f hq => ?_⟩
  · show atP (clearPg S.pg p k) q = _ ↔ _
    rw [hA]
    by_cases e2 : p ≤ q ∧ q < p + k
    · rw [if_pos e2]
      constructor
      · intro e; cases e
      · intro e
        have := (h.zero q).2 e
        rcases hin q e2.1 e2.2 with ⟨h1, _⟩ | h1 <;> rw [this] at h1 <;> cases h1
    · rw [if_neg e2]; exact h.zero q
  · have hq : atP (clearPg S.pg p k) q = .small c' l' := hq
    rw [hA] at hq
    split at hq
    · cases hq
    · exact h.small q c' l' hq
  · have hq : atP (clearPg S.pg p k) q = .first k' := hq
    show 1 ≤ k' ∧ q + k' ≤ (clearPg S.pg p k).length ∧ _
    rw [clearPg_length]
    rw [hA] at hq
    split at hq
    · cases hq
    · rename_i e
      obtain ⟨g1, g2, g3⟩ := h.first q k' hq
      refine ⟨g1, g2, fun j hj1 hj2 => ?_⟩
      show atP (clearPg S.pg p k) j = _
      have hj := g3 j hj1 hj2
      rw [hA]
      by_cases e3 : p ≤ j ∧ j < p + k
      · rcases hin j e3.1 e3.2 with ⟨h1, _⟩ | h1
        · rw [hj] at h1; cases h1
        · rw [hj] at h1; injection h1 with h1; omega
      · rw [if_neg e3]; exact hj
  · have hq : atP (clearPg S.pg p k) q = .rest f := hq
    rw [hA] at hq
    split at hq
    · cases hq
    · rename_i e
      obtain ⟨g1, k', g2, g3⟩ := h.rest q f hq
      refine ⟨g1, k', ?_, g3⟩
      show atP (clearPg S.pg p k) f = _
      rw [hA]
      by_cases e3 : p ≤ f ∧ f < p + k
      · rcases hin f e3.1 e3.2 with ⟨h1, h2⟩ | h1
        · rw [g2] at h1; injection h1 with h1; subst h1; subst h2; omega
        · rw [g2] at h1; cases h1
      · rw [if_neg e3]; exact g2
end Go.Proofs.Ytendjhobemlhoaa
