/- How a new block, or one that is given up, turns what is found. No program in sight. -/
import Derived.Test.YtendjhobemlhoaaSpFind
import Derived.Test.YtendjhobemlhoaaSpace6
namespace Go.Proofs.Ytendjhobemlhoaa
open Go Go.RowKit

/-- No page of blocks is empty. -/
def Sp.NE (S : Sp) : Prop := ∀ p c l, atP S.pg p = .small c l → 0 < countB l
theorem newSp_ne (n : Nat) (h1 : 1 ≤ n) : (newSp n).NE := fun p c l e => by
  rw [new_at n p h1] at e
  split at e <;> cases e
theorem count_pos {l : List Bool} {i : Nat} (hi : i < l.length) (h : l.getD i false = true) : 0 < countB l := by
  unfold countB
  refine List.count_pos_iff.2 ?_
  rw [List.getD_eq_getElem?_getD, List.getElem?_eq_getElem hi] at h
  rw [← show l[i] = true from h]
  exact List.getElem_mem hi

/-- What is so behind a new block of m words at a. -/
structure Made (S S' : Sp) (a m : Int) : Prop where
  wf : S'.WF
  ne : S.NE → S'.NE
  pg : S'.pg.length = S.pg.length
  lo : 64 ≤ a
  hi : a + m ≤ S.W.length
  pos : 1 ≤ m
  W : S'.W = filledAt S.W a.toNat m.toNat
  was : ∀ z, a ≤ z → z < a + m → S.find z = (0, 0, false)
  find : ∀ z, S'.find z = if a ≤ z ∧ z < a + m then (a, m, true) else S.find z

theorem made_small {S : Sp} (h : S.WF) {p c i : Nat} {l : List Bool} (hp : atP S.pg p = .small c l) (hi : i < l.length) (hf : l.getD i false = false) :
    Made S ⟨filledAt S.W (p * 64 + i * wordsOf c) (wordsOf c), S.pg.set p (.small c (l.set i true))⟩ ((p : Int) * 64 + (i : Int) * (wordsOf c : Nat)) (wordsOf c : Nat) := by
  have hlt := atP_in hp (by simp)
  obtain ⟨hc, hll⟩ := h.small p c l hp
  have hfit := block_fits hc (show i < roomOf c by omega)
  have hiw : ((i * wordsOf c : Nat) : Int) = (i : Int) * (wordsOf c : Nat) := Int.natCast_mul _ _
  have hwp := words_pos hc
  have hlen := h.len
  have hp1 : 1 ≤ p := by
    rcases Nat.eq_zero_or_pos p with e | e
    · have := (h.zero p).2 e
      rw [this] at hp; cases hp
    · exact e
  have hfl : (filledAt S.W (p * 64 + i * wordsOf c) (wordsOf c)).length = S.W.length := filledAt_length _ _ _ (by omega)
  refine ⟨h.set_small hlt (.inr ⟨c, l, hp⟩) hc (by simpa using hll) hfl, fun hne q c' l' hq => ?_, by simp, by omega, by omega, by omega, ?_, fun z h1 h2 => ?_, fun z => ?_⟩
  · have hq : atP (S.pg.set p (.small c (l.set i true))) q = .small c' l' := hq
    rw [atP_set _ hlt] at hq
    split at hq
    · cases hq
      exact count_pos (i := i) (by simpa using hi) (by rw [getD_set, if_pos ⟨rfl, hi⟩])
    · exact hne q c' l' hq
  · show filledAt _ _ _ = _
    rw [show ((p : Int) * 64 + (i : Int) * (wordsOf c : Nat)).toNat = p * 64 + i * wordsOf c from by omega, Int.toNat_natCast]
  · have hb := find_bits h (b := false) (W := S.W) hp hi rfl z
    have hl : l.set i false = l := by
      refine ext_getD (by simp) fun j hj => ?_
      rw [getD_set]
      split
      · rename_i e; rw [← e.1, hf]
      · rfl
    rw [hl] at hb
    have hs : S.pg.set p (.small c l) = S.pg := by
      refine List.ext_getElem? fun j => ?_
      rw [List.getElem?_set]
      split
      · rename_i e; subst e; rw [atP_get hp (by simp)]
      · rfl
    rw [hs, if_pos ⟨h1, h2⟩] at hb
    exact hb
  · have hb := find_bits h (b := true) (W := filledAt S.W (p * 64 + i * wordsOf c) (wordsOf c)) hp hi hfl z
    rw [hb]
    simp only [if_true]

theorem first_set (n : Nat) : firstOne n = (List.replicate n false).set 0 true := rfl
theorem made_new {S : Sp} (h : S.WF) {p c : Nat} (hp : atP S.pg p = .free) (hlt : p < S.pg.length) (hc : c < 5) :
    Made S ⟨filledAt S.W (p * 64) (wordsOf c), S.pg.set p (.small c (firstOne (roomOf c)))⟩ ((p : Int) * 64) (wordsOf c : Nat) := by
  have hrm := room_pos hc
  have hwp := words_pos hc
  have hlen := h.len
  -- a page of blocks of which none is taken, first
  have h1 : (Sp.mk S.W (S.pg.set p (.small c (List.replicate (roomOf c) false)))).WF := h.set_small hlt (.inl hp) hc (by simp) rfl
  have hat : atP (S.pg.set p (.small c (List.replicate (roomOf c) false))) p = .small c (List.replicate (roomOf c) false) := by rw [atP_set _ hlt, if_pos rfl]
  have hm := made_small (S := ⟨S.W, S.pg.set p (.small c (List.replicate (roomOf c) false))⟩) h1 (i := 0) hat (by simp; omega) (rep_get _ _)
  have e1 : (p : Int) * 64 + ((0 : Nat) : Int) * (wordsOf c : Nat) = (p : Int) * 64 := by omega
  have e2 : p * 64 + 0 * wordsOf c = p * 64 := by omega
  rw [e1, e2] at hm
  simp only [List.set_set] at hm
  have hsame : ∀ z, (Sp.mk S.W (S.pg.set p (.small c (List.replicate (roomOf c) false)))).find z = S.find z := fun z => by
    by_cases hz : (p : Int) * 64 ≤ z ∧ z < (p : Int) * 64 + 64
    · have hq : (z / 64).toNat = p := by omega
      rw [find_free (S := S) (by rw [hq]; exact hp)]
      by_cases hout : z < 0 ∨ S.W.length ≤ z
      · exact find_out hout
      · rw [find_in (S := Sp.mk _ _) (by omega) (by show z < (S.W.length : Int); omega)]
        show findIn _ z (atP (S.pg.set p _) _) = _
        rw [hq, hat]
        simp only [findIn]
        rw [if_neg]
        rw [hasB_yes (small_lt hc (by omega) (by omega)).1, rep_get]
        simp
    · exact find_page h hlt (.inl hp) rfl z hz
  have hp1 : 1 ≤ p := by
    rcases Nat.eq_zero_or_pos p with e | e
    · have := (h.zero p).2 e
      rw [this] at hp; cases hp
    · exact e
  refine ⟨hm.wf, fun hne q c' l' hq => ?_, by simp, by omega, by omega, by omega, hm.W, fun z z1 z2 => by rw [← hsame]; exact hm.was z z1 z2, fun z => ?_⟩
  · have hq : atP (S.pg.set p (.small c (firstOne (roomOf c)))) q = .small c' l' := hq
    rw [atP_set _ hlt] at hq
    split at hq
    · cases hq
      exact count_pos (i := 0) (by rw [firstOne_length]; omega) (by unfold firstOne; rw [getD_set, if_pos ⟨rfl, by simp; omega⟩])
    · exact hne q c' l' hq
  · have := hm.find z
    rw [hsame] at this
    exact this

theorem made_large {S : Sp} (h : S.WF) {p k : Nat} (hk : 1 ≤ k) (hpk : p + k ≤ S.pg.length) (hat : ∀ j, p ≤ j → j < p + k → atP S.pg j = .free) :
    Made S ⟨filledAt S.W (p * 64) (k * 64), putLarge S.pg p k⟩ ((p : Int) * 64) ((k : Int) * 64) := by
  have hA : ∀ j, atP (putLarge S.pg p k) j = if j = p then .first k else if p < j ∧ j < p + k then .rest p else atP S.pg j := fun j => atP_large hpk hk
  have hlen := h.len
  have hfl : (filledAt S.W (p * 64) (k * 64)).length = S.W.length := filledAt_length _ _ _ (by omega)
  have hp1 : 1 ≤ p := by
    rcases Nat.eq_zero_or_pos p with e | e
    · have := (h.zero p).2 e
      rw [hat p (by omega) (by omega)] at this; cases this
    · exact e
  refine ⟨h.put_large hpk hk hat hfl, fun hne q c' l' hq => ?_, putLarge_length, by omega, by omega, by omega, ?_, fun z h1 h2 => find_free (hat _ (by omega) (by omega)), fun z => ?_⟩
  · have hq : atP (putLarge S.pg p k) q = .small c' l' := hq
    rw [hA] at hq
    split at hq
    · cases hq
    · split at hq
      · cases hq
      · exact hne q c' l' hq
  · show filledAt _ _ _ = _
    rw [show ((p : Int) * 64).toNat = p * 64 from by omega, show ((k : Int) * 64).toNat = k * 64 from by omega]
  · by_cases hout : z < 0 ∨ S.W.length ≤ z
    · rw [find_out (S := Sp.mk _ _) (by show z < 0 ∨ ((filledAt S.W (p * 64) (k * 64)).length : Int) ≤ z; rw [hfl]; exact hout), if_neg (by omega), find_out hout]
    · by_cases hz : (p : Int) * 64 ≤ z ∧ z < (p : Int) * 64 + (k : Int) * 64
      · rw [if_pos hz, find_in (S := Sp.mk _ _) (by omega) (by show z < ((filledAt S.W (p * 64) (k * 64)).length : Int); omega)]
        show findIn _ z (atP (putLarge S.pg p k) _) = _
        rw [hA]
        by_cases e : (z / 64).toNat = p
        · rw [if_pos e]; simp only [findIn]; rw [show z / 64 = p from by omega]
        · rw [if_neg e, if_pos (by omega)]
          simp only [findIn]
          show ((p : Int) * 64, (manyOf (atP (putLarge S.pg p k) p) : Int) * 64, true) = _
          rw [hA, if_pos rfl]
          rfl
      · rw [if_neg hz]
        refine find_same hfl ?_ fun f hf => ?_
        · show atP (putLarge S.pg p k) _ = _
          rw [hA, if_neg (by omega), if_neg (by omega)]
        · show atP (putLarge S.pg p k) _ = _
          obtain ⟨_, k', hk', _⟩ := h.rest _ f hf
          have hnot : ¬ (p ≤ f ∧ f < p + k) := fun e => by rw [hat f e.1 e.2] at hk'; cases hk'
          rw [hA, if_neg (by omega), if_neg (by omega)]

/-- What Alloc makes of a space: nothing, or a block. -/
theorem alloc_cases {S : Sp} (h : S.WF) (n : Int) : (blockZ n = 0 ∧ S.alloc n = (S, 0, 1)) ∨ (blockZ n ≠ 0 ∧ S.alloc n = (S, 0, 3)) ∨ (blockZ n ≠ 0 ∧ ∃ S' a, S.alloc n = (S', a, 0) ∧ Made S S' a (blockZ n)) := by
  by_cases hb : blockZ n = 0
  · exact .inl ⟨hb, if_pos hb⟩
  refine .inr ?_
  by_cases hc : classZ n < 0
  · obtain ⟨k, hk, hk1, hk2, hbk, _, _⟩ := pages_nat hb hc
    rcases run_nat (l := bitsOf S.pg) (i := 0) (k := k) with hr | ⟨p, hr⟩
    · refine .inl ⟨hb, ?_⟩
      unfold Sp.alloc
      rw [if_neg hb, if_pos hc, hk, hr, if_pos (by omega)]
    · obtain ⟨h1, h2⟩ := run_at hk1 hr
      refine .inr ⟨hb, _, _, alloc_pages hc hb hk hr, ?_⟩
      rw [hbk]
      exact made_large h hk1 h1 h2
  · obtain ⟨c, hcc, hc5, hbw⟩ := class_small hc
    rcases openZ_cases S.pg c with ⟨ho, _⟩ | ⟨p, ho, hp, hopen, _⟩
    · rcases run_nat (l := bitsOf S.pg) (i := 0) (k := 1) with hr | ⟨p, hr⟩
      · refine .inl ⟨hb, ?_⟩
        unfold Sp.alloc
        rw [if_neg hb, hcc, if_neg (by omega), Int.toNat_natCast, ho, if_neg (by omega), hr, if_pos (by omega)]
      · obtain ⟨h1, h2⟩ := run_at (k := 1) (by omega) hr
        refine .inr ⟨hb, _, _, alloc_new hcc hb ho hr, ?_⟩
        rw [hbw]
        exact made_new h (h2 p (by omega) (by omega)) (by omega) hc5
    · obtain ⟨l, hat, hcnt⟩ := open_small hopen
      obtain ⟨i, hi, hil, hif⟩ := next_of_count hcnt
      refine .inr ⟨hb, _, _, alloc_open hcc hb ho hat hi, ?_⟩
      rw [hbw]
      exact made_small h hat hil hif

/-- What is so behind a block of m words at a that was given up. -/
structure Gone (S S' : Sp) (a m : Int) : Prop where
  wf : S'.WF
  ne : S.NE → S'.NE
  pg : S'.pg.length = S.pg.length
  W : S'.W = S.W
  find : ∀ z, S'.find z = if a ≤ z ∧ z < a + m then (0, 0, false) else S.find z

theorem drop_some {S : Sp} (h : S.WF) {a m : Int} (hf : S.find a = (a, m, true)) : ∃ S', S.drop a = (S', 0) ∧ Gone S S' a m := by
  have hno : ¬ ((S.find a).2.2 = false ∨ (S.find a).1 ≠ a) := by rw [hf]; simp
  have hin : ¬ (a < 0 ∨ S.W.length ≤ a) := fun e => by rw [find_out e] at hf; cases hf
  have hlen := h.len
  obtain ⟨p, hp⟩ : ∃ p : Nat, (a / 64).toNat = p := ⟨_, rfl⟩
  have hfi := find_in (S := S) (z := a) (by omega) (by omega)
  rw [hf, hp] at hfi
  cases hx : atP S.pg p <;> rw [hx] at hfi <;> simp only [findIn] at hfi
  case zero => cases hfi
  case free => cases hfi
  case rest f =>
    simp only [Prod.mk.injEq, and_true] at hfi
    have := (h.rest _ _ hx).1
    omega
  case first k =>
    simp only [Prod.mk.injEq, and_true] at hfi
    obtain ⟨hk1, hpk, hr⟩ := h.first p k hx
    have hA : ∀ j, atP (clearPg S.pg p k) j = if p ≤ j ∧ j < p + k then .free else atP S.pg j := fun j => atP_clear hpk
    refine ⟨⟨S.W, clearPg S.pg p k⟩, ?_, h.clear hx, fun hne q c' l' hq => ?_, clearPg_length, rfl, fun z => ?_⟩
    · unfold Sp.drop
      rw [if_neg hno, hp, hx]
    · have hq : atP (clearPg S.pg p k) q = .small c' l' := hq
      rw [hA] at hq
      split at hq
      · cases hq
      · exact hne q c' l' hq
    · by_cases hz : a ≤ z ∧ z < a + m
      · rw [if_pos hz]
        refine find_free ?_
        show atP (clearPg S.pg p k) _ = _
        rw [hA, if_pos (by omega)]
      · rw [if_neg hz]
        by_cases hzn : z < 0
        · rw [find_out (.inl hzn), find_out (.inl hzn)]
        · have hnot : ¬ (p ≤ (z / 64).toNat ∧ (z / 64).toNat < p + k) := by omega
          refine find_same rfl ?_ fun f hf' => ?_
          · show atP (clearPg S.pg p k) _ = _
            rw [hA, if_neg hnot]
          · show atP (clearPg S.pg p k) _ = _
            obtain ⟨g1, k', hk', g2⟩ := h.rest _ f hf'
            rw [hA, if_neg]
            rintro ⟨e1, e2⟩
            rcases Nat.eq_or_lt_of_le e1 with e | e
            · subst e
              rw [hx] at hk'; injection hk' with hk'
              omega
            · rw [hr f e e2] at hk'; cases hk'
  case small c l =>
    obtain ⟨hc, hll⟩ := h.small p c l hx
    obtain ⟨d0, d1, d2, d3⟩ := small_lt hc (o := a % 64) (by omega) (by omega)
    have hwp := words_pos hc
    have hlt := atP_in hx (by simp)
    obtain ⟨i, hi⟩ : ∃ i : Nat, a % 64 / (wordsOf c : Nat) = i := ⟨(a % 64 / (wordsOf c : Nat)).toNat, by omega⟩
    rw [hi] at hfi d1 d2 d3
    have hil : i < l.length := by omega
    by_cases hb : hasB l (i : Int) = true
    · rw [if_pos hb] at hfi
      simp only [Prod.mk.injEq, and_true] at hfi
      have ha : a = (p : Int) * 64 + (i : Int) * (wordsOf c : Nat) := by omega
      have hm := hfi.2
      have hbits : ∀ z, (Sp.mk S.W (S.pg.set p (.small c (l.set i false)))).find z = if a ≤ z ∧ z < a + m then (0, 0, false) else S.find z := fun z => by
        have := find_bits h (b := false) (W := S.W) hx hil rfl z
        rw [this, ← ha, ← hm]
        simp
      by_cases hcnt : countB (l.set i false) = 0
      · refine ⟨⟨S.W, S.pg.set p .free⟩, ?_, h.set_free hx, fun hne q c' l' hq => ?_, by simp, rfl, fun z => ?_⟩
        · unfold Sp.drop
          rw [if_neg hno, hp, hx]
          simp only
          rw [hi, Int.toNat_natCast, if_pos hcnt]
        · have hq : atP (S.pg.set p .free) q = .small c' l' := hq
          rw [atP_set _ hlt] at hq
          split at hq
          · cases hq
          · exact hne q c' l' hq
        · rw [← hbits]
          have hwf1 : (Sp.mk S.W (S.pg.set p (.small c (l.set i false)))).WF := h.set_small hlt (.inr ⟨c, l, hx⟩) hc (by simpa using hll) rfl
          by_cases hz : (p : Int) * 64 ≤ z ∧ z < (p : Int) * 64 + 64
          · have hq : (z / 64).toNat = p := by omega
            rw [find_free (S := Sp.mk S.W (S.pg.set p .free)) (by show atP (S.pg.set p .free) _ = _; rw [hq, atP_set _ hlt, if_pos rfl])]
            by_cases hout : z < 0 ∨ S.W.length ≤ z
            · have := find_out (S := Sp.mk S.W (S.pg.set p (.small c (l.set i false)))) (z := z) hout
              rw [this]
            · rw [find_in (S := Sp.mk _ _) (by omega) (by show z < (S.W.length : Int); omega)]
              show _ = findIn _ z (atP (S.pg.set p _) _)
              rw [hq, atP_set _ hlt, if_pos rfl]
              simp only [findIn]
              obtain ⟨z0, z1, _, _⟩ := small_lt hc (o := z % 64) (by omega) (by omega)
              rw [if_neg]
              rw [hasB_yes z0]
              intro e
              have := count_pos (l := l.set i false) (i := (z % 64 / (wordsOf c : Nat)).toNat) (by simp; omega) e
              omega
          · rw [find_page h hlt (.inr ⟨c, l, hx⟩) rfl z hz, find_page h hlt (.inr ⟨c, l, hx⟩) rfl z hz]
      · refine ⟨⟨S.W, S.pg.set p (.small c (l.set i false))⟩, ?_, h.set_small hlt (.inr ⟨c, l, hx⟩) hc (by simpa using hll) rfl, fun hne q c' l' hq => ?_, by simp, rfl, hbits⟩
        · unfold Sp.drop
          rw [if_neg hno, hp, hx]
          simp only
          rw [hi, Int.toNat_natCast, if_neg hcnt]
        · have hq : atP (S.pg.set p (.small c (l.set i false))) q = .small c' l' := hq
          rw [atP_set _ hlt] at hq
          split at hq
          · cases hq; omega
          · exact hne q c' l' hq
    · rw [if_neg hb] at hfi; cases hfi
theorem drop_none {S : Sp} {a : Int} (h : (S.find a).2.2 = false ∨ (S.find a).1 ≠ a) : S.drop a = (S, 2) := if_pos h

/-- A page of which no word is found is free, where no page of blocks is empty. -/
theorem page_free {S : Sp} (h : S.WF) (hne : S.NE) {j : Nat} (hj : 1 ≤ j) (hf : ∀ z, (j : Int) * 64 ≤ z → z < (j : Int) * 64 + 64 → (S.find z).2.2 = false) : atP S.pg j = .free := by
  have hlen := h.len
  rcases Nat.lt_or_ge j S.pg.length with hjl | hjl
  · have hz := hf ((j : Int) * 64) (by omega) (by omega)
    cases hx : atP S.pg j
    case zero => exact absurd ((h.zero j).1 hx) (by omega)
    case free => rfl
    case first k =>
      rw [find_in (by omega) (by omega), show ((j : Int) * 64 / 64).toNat = j from by omega, hx] at hz
      cases hz
    case rest f =>
      rw [find_in (by omega) (by omega), show ((j : Int) * 64 / 64).toNat = j from by omega, hx] at hz
      cases hz
    case small c l =>
      exfalso
      obtain ⟨hc, hll⟩ := h.small j c l hx
      have hpos := hne j c l hx
      unfold countB at hpos
      obtain ⟨i, hi, e⟩ := List.mem_iff_getElem.1 (List.count_pos_iff.1 hpos)
      have hfit := block_fits hc (show i < roomOf c by omega)
      have hiw : ((i * wordsOf c : Nat) : Int) = (i : Int) * (wordsOf c : Nat) := Int.natCast_mul _ _
      have hwp := words_pos hc
      have hz := hf ((j : Int) * 64 + (i : Int) * (wordsOf c : Nat)) (by omega) (by omega)
      rw [find_in (by omega) (by omega), show (((j : Int) * 64 + (i : Int) * (wordsOf c : Nat)) / 64).toNat = j from by omega, hx] at hz
      simp only [findIn] at hz
      rw [(small_div hc _ i).2 (by omega), if_pos] at hz
      · cases hz
      · rw [hasB_nat, List.getD_eq_getElem?_getD, List.getElem?_eq_getElem hi, e]; rfl
  · exact atP_out hjl
/-- Where nothing is found, and no page of blocks is empty, all is as new. -/
theorem all_free {S : Sp} (h : S.WF) (hne : S.NE) (hf : ∀ z, (S.find z).2.2 = false) : S.pg = (newSp S.pg.length).pg := by
  refine List.ext_getElem? fun j => ?_
  have hl : (newSp S.pg.length).pg.length = S.pg.length := by simp [newSp]
  rcases Nat.lt_or_ge j S.pg.length with hj | hj
  · have hat : atP S.pg j = atP (newSp S.pg.length).pg j := by
      rw [new_at _ _ h.n1]
      by_cases h0 : j = 0
      · rw [if_pos h0, (h.zero j).2 h0]
      · rw [if_neg h0, page_free h hne (by omega) fun z _ _ => hf z]
    unfold atP at hat
    rw [List.getD_eq_getElem?_getD, List.getD_eq_getElem?_getD, List.getElem?_eq_getElem hj, List.getElem?_eq_getElem (by omega)] at hat
    rw [List.getElem?_eq_getElem hj, List.getElem?_eq_getElem (by omega)]
    exact congrArg some hat
  · rw [List.getElem?_eq_none hj, List.getElem?_eq_none (by omega)]
theorem new_find {np : Nat} (h1 : 1 ≤ np) (W : List Int) (z : Int) : (Sp.mk W (newSp np).pg).find z = (0, 0, false) := by
  by_cases hout : z < 0 ∨ W.length ≤ z
  · exact find_out (S := Sp.mk W (newSp np).pg) hout
  · rw [find_in (S := Sp.mk W (newSp np).pg) (by omega) (by show z < (W.length : Int); omega)]
    show findIn _ z (atP (newSp np).pg _) = _
    rw [new_at _ _ h1]
    split <;> rfl
theorem eta_find {S : Sp} {np : Nat} (h1 : 1 ≤ np) (hpg : S.pg = (newSp np).pg) (z : Int) : S.find z = (0, 0, false) := by
  have := new_find h1 S.W z
  rw [← hpg] at this
  exact this

/-- The pages that a block needs. -/
def needZ (n : Int) : Int := if classZ n < 0 then pagesZ n else 1
theorem need_bd {n : Int} (h : blockZ n ≠ 0) : 1 ≤ needZ n ∧ needZ n ≤ 16 := by
  unfold needZ
  by_cases hc : classZ n < 0
  · obtain ⟨k, hk, _⟩ := pages_nat h hc
    rw [if_pos hc]; omega
  · rw [if_neg hc]; omega
theorem block_bd {n : Int} (h : blockZ n ≠ 0) : n ≤ blockZ n ∧ 2 ≤ blockZ n ∧ blockZ n ≤ 1024 ∧ 1 ≤ n ∧ n ≤ 1024 ∧ blockZ n ≤ needZ n * 64 := by
  unfold needZ
  by_cases hc : classZ n < 0
  · obtain ⟨k, hk, _, _, hbk, _, _⟩ := pages_nat h hc
    rw [if_pos hc]
    have hp : pagesZ n = (n + 64 - 1) / 64 := by
      unfold pagesZ at hk ⊢
      split at hk
      · omega
      · rename_i e; rw [if_neg e]
    omega
  · obtain ⟨c, hcc, hc5, hbw⟩ := class_small hc
    rw [if_neg hc, hbw]
    have hwp := words_pos hc5
    unfold classZ at hcc
    have : c = 0 ∨ c = 1 ∨ c = 2 ∨ c = 3 ∨ c = 4 := by omega
    rcases this with rfl | rfl | rfl | rfl | rfl <;> simp only [wordsOf] <;> (repeat' split at hcc) <;> omega
theorem block_need {n : Int} (h : blockZ n ≠ 0) (hc : classZ n < 0) : blockZ n = needZ n * 64 := by
  obtain ⟨k, hk, _, _, hbk, _, _⟩ := pages_nat h hc
  unfold needZ
  rw [if_pos hc, hk, hbk]

/-- There is room, where enough pages are free. -/
theorem alloc_room {S : Sp} (h : S.WF) (n : Int) (hb : blockZ n ≠ 0) {t : Nat} (ht : ∀ j, t ≤ j → atP S.pg j = .free) (hr : t + needZ n ≤ S.pg.length) : ∃ S' a, S.alloc n = (S', a, 0) ∧ Made S S' a (blockZ n) := by
  rcases alloc_cases h n with ⟨h1, _⟩ | ⟨_, h2⟩ | ⟨_, h3⟩
  · exact absurd h1 hb
  · exfalso
    have hrun : ∀ k : Nat, 1 ≤ k → t + k ≤ S.pg.length → runZ (bitsOf S.pg) 0 k ≠ -1 := fun k hk1 hk e => by
      rcases isRun_runZ (bitsOf S.pg) 0 k (by omega) with ⟨_, h5⟩ | ⟨p, h5, _⟩
      · obtain ⟨j, h6, _, h7⟩ := h5 t (by omega) (by rw [bits_length]; omega)
        rw [bits_get, ht j h6] at h7
        cases h7
      · omega
    unfold needZ at hr
    unfold Sp.alloc at h2
    rw [if_neg hb] at h2
    by_cases hc : classZ n < 0
    · obtain ⟨k, hk, hk1, _⟩ := pages_nat hb hc
      rw [if_pos hc] at hr h2
      rw [hk] at h2 hr
      have := hrun k hk1 (by omega)
      rcases run_nat (l := bitsOf S.pg) (i := 0) (k := k) with e | ⟨p, e⟩
      · exact this e
      · rw [e, if_neg (by omega)] at h2
        have := congrArg (·.2.2) h2
        cases this
    · rw [if_neg hc] at h2
      split at h2
      · have := congrArg (·.2.2) h2
        cases this
      · have h8 := hrun 1 (by omega) (by rw [if_neg hc] at hr; omega)
        rcases run_nat (l := bitsOf S.pg) (i := 0) (k := 1) with e | ⟨p, e⟩
        · exact h8 (by simpa using e)
        · rw [e, if_neg (by omega)] at h2
          have := congrArg (·.2.2) h2
          cases this
  · exact h3
/-- The first pages side by side that are free. -/
theorem run_first {pg : List Pst} {p k : Nat} (hk : 1 ≤ k) (h : p + k ≤ pg.length) (hf : ∀ j, p ≤ j → j < p + k → atP pg j = .free) (hno : ∀ b, b < p → ∃ j, b ≤ j ∧ j < b + k ∧ atP pg j ≠ .free) : runZ (bitsOf pg) 0 k = p := by
  refine runZ_eq (by omega) (.inr ⟨p, rfl, by simp, by rw [bits_length]; simpa using h, fun j h1 h2 => ?_, fun b _ hb => ?_⟩)
  · rw [bits_get, hf j h1 (by simpa using h2)]; rfl
  · obtain ⟨j, h1, h2, h3⟩ := hno b hb
    refine ⟨j, h1, by simpa using h2, ?_⟩
    rw [bits_get]
    cases hx : atP pg j <;> first | rfl | exact absurd hx h3
/-- In a space that is as new a block comes behind page 0. -/
theorem alloc_fresh {S : Sp} {np : Nat} (h : S.WF) (hpg : S.pg = (newSp np).pg) (n : Int) (hb : blockZ n ≠ 0) (hr : 1 + needZ n ≤ np) : ∃ S', S.alloc n = (S', 64, 0) ∧ Made S S' 64 (blockZ n) := by
  have hnb := need_bd hb
  have hl : S.pg.length = np := by rw [hpg]; simp [newSp]
  have hat : ∀ j, atP S.pg j = if j = 0 then .zero else .free := fun j => by rw [hpg, new_at _ _ (by omega)]
  have hrun : ∀ k : Nat, 1 ≤ k → 1 + k ≤ np → runZ (bitsOf S.pg) 0 k = (1 : Nat) := fun k hk1 hk =>
    run_first hk1 (by omega) (fun j h1 h2 => by rw [hat, if_neg (by omega)]) (fun b hb => ⟨0, by omega, by omega, by rw [hat, if_pos rfl]; simp⟩)
  unfold needZ at hr
  by_cases hc : classZ n < 0
  · obtain ⟨k, hk, hk1, hk2, hbk, _, _⟩ := pages_nat hb hc
    rw [if_pos hc, hk] at hr
    have hm := made_large h hk1 (p := 1) (by omega) (fun j h1 h2 => by rw [hat, if_neg (by omega)])
    have ha := alloc_pages hc hb hk (hrun k hk1 (by omega))
    rw [hbk]
    exact ⟨_, ha, hm⟩
  · obtain ⟨c, hcc, hc5, hbw⟩ := class_small hc
    rw [if_neg hc] at hr
    have ho : openZ S.pg c = -1 := openZ_miss fun j _ => by rw [hat]; split <;> rfl
    have hm := made_new h (p := 1) (by rw [hat, if_neg (by omega)]) (by omega) hc5
    have ha := alloc_new hcc hb ho (hrun 1 (by omega) (by omega))
    rw [hbw]
    exact ⟨_, ha, hm⟩

/-- The sum of all blocks' words. -/
theorem used_eq {S : Sp} (h : S.WF) {bs : List (Int × Int)} (hn : (bs.map (·.1)).Nodup) (hb : ∀ z m, (S.find z = (z, m, true)) ↔ (z, m) ∈ bs) : S.used = (bs.map (·.2)).sum := by
  have hp : S.each.Perm (bs.map (·.1)) := by
    refine (List.perm_ext_iff_of_nodup ((each_sorted h).imp fun h => by omega) hn).2 fun x => ?_
    rw [each_iff h, List.mem_map]
    constructor
    · rintro ⟨m, hm⟩; exact ⟨(x, m), (hb x m).1 hm, rfl⟩
    · rintro ⟨⟨a, m⟩, hm, rfl⟩; exact ⟨m, (hb a m).2 hm⟩
  unfold Sp.used
  have hs : ∀ {l l' : List Int}, l.Perm l' → l.sum = l'.sum := fun hp => by
    induction hp with
    | nil => rfl
    | cons x _ ih => simp only [List.sum_cons, ih]
    | swap x y l => simp only [List.sum_cons]; omega
    | trans _ _ ih1 ih2 => rw [ih1, ih2]
  rw [hs (hp.map _), List.map_map]
  congr 1
  refine List.map_congr_left fun x hx => ?_
  have := (hb x.1 x.2).2 hx
  simp only [Function.comp]
  rw [this]
end Go.Proofs.Ytendjhobemlhoaa
