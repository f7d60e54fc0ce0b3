/- Where the next block comes: the contracts of first and place. -/
import Derived.Test.YtendjhobemlhoaaSpace2
namespace Go.Proofs.Ytendjhobemlhoaa
open Go Go.RowKit

theorem open_yes (s : Nat) (L : Lay) (S : Sp) (c p : Nat) (w : World) (h : IsSpace w s L S) (hc : c < 5) (ho : openZ S.pg c = p) :
    Calls Try.prog 91 #[.pointer (some ⟨s, 0, none⟩), .int .i64 c] w fun e w' => e = .returned (.tuple #[.int .i64 p, .bool true]) ∧ Upd [] w w' :=
  (open_calls s L S c w h hc).mono fun e w' ⟨hs, hu⟩ => by
    rw [ho] at hs
    rcases hs with ⟨p', h1, h2⟩ | ⟨h1, _⟩
    · obtain rfl : p = p' := by omega
      exact ⟨h2, hu⟩
    · omega
theorem open_no (s : Nat) (L : Lay) (S : Sp) (c : Nat) (w : World) (h : IsSpace w s L S) (hc : c < 5) (ho : openZ S.pg c = -1) :
    Calls Try.prog 91 #[.pointer (some ⟨s, 0, none⟩), .int .i64 c] w fun e w' => e = .returned (.tuple #[.int .i64 0, .bool false]) ∧ Upd [] w w' :=
  (open_calls s L S c w h hc).mono fun e w' ⟨hs, hu⟩ => by
    rw [ho] at hs
    rcases hs with ⟨p', h1, h2⟩ | ⟨h1, h2⟩
    · omega
    · exact ⟨h2, hu⟩

theorem run_at {pg : List Pst} {k p : Nat} (hk : 1 ≤ k) (h : runZ (bitsOf pg) 0 k = p) : p + k ≤ pg.length ∧ ∀ j, p ≤ j → j < p + k → atP pg j = .free := by
  obtain ⟨h1, h2, _⟩ := run_free hk h
  rw [bits_length] at h1
  refine ⟨h1, fun j h3 h4 => ?_⟩
  have := freeB_true.1 h2 j h3 h4
  rw [bits_get] at this
  cases hx : atP pg j <;> rw [hx] at this <;> first | rfl | cases this

/-- The page in which a class's next block comes, and the space behind that. -/
def First (S : Sp) (c p : Nat) (l : List Bool) (S1 : Sp) : Prop := (openZ S.pg c = p ∧ S1 = S ∧ atP S.pg p = .small c l) ∨
  (openZ S.pg c = -1 ∧ runZ (bitsOf S.pg) 0 1 = p ∧ l = List.replicate (roomOf c) false ∧ S1 = ⟨S.W, S.pg.set p (.small c l)⟩)
theorem First.at {S S1 : Sp} {c p : Nat} {l : List Bool} (h : First S c p l S1) : atP S1.pg p = .small c l := by
  rcases h with ⟨_, rfl, h⟩ | ⟨_, h1, rfl, rfl⟩
  · exact h
  · have := (run_at (k := 1) (by omega) h1).1
    show atP (S.pg.set p _) p = _
    rw [atP_set _ (by omega), if_pos rfl]
theorem First.words {S S1 : Sp} {c p : Nat} {l : List Bool} (h : First S c p l S1) : S1.W = S.W := by
  rcases h with ⟨_, rfl, h⟩ | ⟨_, h1, rfl, rfl⟩ <;> rfl

theorem first_full (s : Nat) (L : Lay) (S : Sp) (c : Nat) (w : World) (h : IsSpace w s L S) (hc : c < 5) (ho : openZ S.pg c = -1) (hr : runZ (bitsOf S.pg) 0 1 = -1) :
    Calls Try.prog 84 #[.pointer (some ⟨s, 0, none⟩), .int .i64 c] w fun e w' => e = .returned (.tuple #[.int .i64 0, .int .i64 3]) ∧ Upd [] w w' := by
  have c1 : w.cell? ⟨s, 1, none⟩ = some (.pointer (some ⟨L.q0, 0, none⟩)) := h.box.cell 1
  have H := Lib.hid h
  have HO := Lib.hid ho
  have HR := Lib.hid hr
  clear h ho hr
  go_enter Try.func84, Try.ntmps84
  go_wp2_with fail
  refine (open_no s L S c _ H.out hc HO.out).mono ?_
  rintro e w1 ⟨rfl, hu⟩
  have HU := Lib.hid hu
  have d1 : w1.cell? ⟨s, 1, none⟩ = some (.pointer (some ⟨L.q0, 0, none⟩)) := (hu.cell (p := ⟨s, 1, none⟩) H.out.box.lt (by simp)).trans c1
  clear hu c1
  go_wp2_with fail
  refine (ptake_no L.q0 L.b0 L.g0 (bitsOf S.pg) 1 _ (H.out.upd0 HU.out).pages (by rw [bits_length]; exact H.out.wf.n2) (by omega) (by omega) HR.out).mono ?_
  rintro e w' ⟨rfl, rfl⟩
  go_wp2_with fail
  go_ret2
  exact ⟨rfl, HU.out⟩

theorem first_calls (s : Nat) (L : Lay) (S S1 : Sp) (c p : Nat) (l : List Bool) (w : World) (h : IsSpace w s L S) (hc : c < 5) (hf : First S c p l S1) :
    Calls Try.prog 84 #[.pointer (some ⟨s, 0, none⟩), .int .i64 c] w fun e w' => e = .returned (.tuple #[.int .i64 p, .int .i64 0]) ∧ After s L S S1 w w' := by
  rcases hf with ⟨ho, rfl, _⟩ | ⟨ho, hr, rfl, rfl⟩
  · have H := Lib.hid h
    have HO := Lib.hid ho
    clear h ho
    go_enter Try.func84, Try.ntmps84
    go_wp2_with fail
    refine (open_yes s L S1 c p _ H.out hc HO.out).mono ?_
    rintro e w1 ⟨rfl, hu⟩
    have HU := Lib.hid hu
    clear hu
    go_wp2_with fail
    go_ret2
    exact ⟨rfl, .same H.out HU.out⟩
  · have c1 : w.cell? ⟨s, 1, none⟩ = some (.pointer (some ⟨L.q0, 0, none⟩)) := h.box.cell 1
    have c2 : w.cell? ⟨s, 2, none⟩ = some (.map (some L.ms)) := h.box.cell 2
    obtain ⟨hp1, hp2⟩ := run_at (k := 1) (by omega) hr
    have HP := Lib.hid (And.intro hp1 (hp2 p (by omega) (by omega)))
    have hp64 : ok64 (p : Int) := by have := h.wf.n2; unfold ok64; omega
    have HP64 := Lib.hid hp64
    have H := Lib.hid h
    have HO := Lib.hid ho
    have HR := Lib.hid hr
    clear h ho hr hp1 hp2 hp64
    go_enter Try.func84, Try.ntmps84
    go_wp2_with fail
    refine (open_no s L S c _ H.out hc HO.out).mono ?_
    rintro e w1 ⟨rfl, hu⟩
    have HU := Lib.hid hu
    have d1 : w1.cell? ⟨s, 1, none⟩ = some (.pointer (some ⟨L.q0, 0, none⟩)) := (hu.cell (p := ⟨s, 1, none⟩) H.out.box.lt (by simp)).trans c1
    clear hu c1
    go_wp2_with fail
    refine (ptake_yes L.q0 L.b0 L.g0 (bitsOf S.pg) 1 p _ (H.out.upd0 HU.out).pages (by rw [bits_length]; exact H.out.wf.n2) (by omega) HR.out).mono ?_
    rintro e w2 ⟨rfl, hP, hu⟩
    rw [span_one] at hP
    have HPG := Lib.hid hP
    have HU2 : Hid (Upd [L.g0] w w2) := Lib.hid ((HU.out.mono (by simp)).trans hu)
    clear hP hu d1
    go_wp2_with fail
    refine (block_new_yes c _ hc).mono ?_
    rintro e w3 ⟨q, b, g, rfl, hN, hq, hb, hg, hu⟩
    have HN := Lib.hid hN
    have HQ := Lib.hid (And.intro hq (And.intro hb hg))
    have HW3 := Lib.hid hu
    have HU3 : Hid (Upd [L.g0] w w3) := Lib.hid (HU2.out.step (Upd.of_below hu : Upd [] _ _) (by simp))
    have hs0 : s ∉ [L.g0] := by simpa using H.out.box.ne_ H.out.pages.2.2 (by decide)
    have d2 : w3.cell? ⟨s, 2, none⟩ = some (.map (some L.ms)) := (HU3.out.cell (p := ⟨s, 2, none⟩) H.out.box.lt hs0).trans c2
    have HM : Hid (MapV w3 L.ms 256 (smallF L S.pg)) := Lib.hid (H.out.small.upd HU3.out (by simpa using (H.out.pages.2.2.ne_map H.out.small).symm))
    clear hN hq hb hg hu c2 hs0
    go_wp2_with (at_mapUpdate; refine wpList_put_mapv rfl _ _ _ 99 124 rfl Try.underlying99 HM.out (by omega) rfl (p : Int) HP64.out (.pointer (some ⟨q, 0, none⟩)) rfl rfl (rdV_ptr q) ?_)
    intro w4 hM4 hu4
    have HM4 := Lib.hid hM4
    have HU4 := Lib.hid hu4
    clear hM4 hu4
    go_wp2_with fail
    go_ret2
    have hz2 := HU2.out.size
    have hz3 := HW3.out.size
    obtain ⟨hq, hb, hg⟩ := HQ.out
    have hml := H.out.small.lt
    have e1 := H.out.pages.1.ne_map H.out.small
    have e2 := H.out.pages.2.1.ne_map H.out.small
    have e3 := H.out.pages.2.2.ne_map H.out.small
    have u24 : Upd [L.ms] w2 w4 := ((Upd.of_below HW3.out : Upd [] _ _).mono (by simp)).trans HU4.out
    refine ⟨rfl, H.out.newSmall HP.out.2 (by have := HP.out.1; omega) hc (by simp) (HPG.out.upd u24 (by simpa using e1) (by simpa using e2) (by simpa using e3))
      (HN.out.upd HU4.out (by simp; omega) (by simp; omega) (by simp; omega)) (by omega) (by omega) (by omega) HM4.out ((HU3.out.mono (by simp)).trans (HU4.out.mono (by simp)))⟩

/-! ### place -/
theorem pages_nat {n : Int} (h : blockZ n ≠ 0) (hc : classZ n < 0) : ∃ k : Nat, pagesZ n = k ∧ 1 ≤ k ∧ k ≤ 16 ∧ blockZ n = k * 64 ∧ 1 ≤ n ∧ n ≤ 1024 := by
  have hb : blockZ n = pagesZ n * 64 := by unfold blockZ; rw [if_neg (by omega)]
  rw [hb] at h
  unfold pagesZ at h ⊢
  by_cases h1 : n < 1 ∨ 1024 < n ∨ 0 ≤ classZ n
  · rw [if_pos h1] at h; exact absurd rfl h
  · rw [hb]
    unfold pagesZ
    rw [if_neg h1]
    exact ⟨((n + 64 - 1) / 64).toNat, by omega, by omega, by omega, by omega, by omega, by omega⟩

theorem place_large_full (s : Nat) (L : Lay) (S : Sp) (n : Int) (k : Nat) (w : World) (h : IsSpace w s L S) (hc : classZ n < 0) (hk : pagesZ n = k) (hk1 : 1 ≤ k) (hk2 : k ≤ 16) (hr : runZ (bitsOf S.pg) 0 k = -1) :
    Calls Try.prog 70 #[.pointer (some ⟨s, 0, none⟩), .int .i64 n] w fun e w' => e = .returned (.tuple #[.int .i64 0, .int .i64 3]) ∧ Upd [] w w' := by
  have c1 : w.cell? ⟨s, 1, none⟩ = some (.pointer (some ⟨L.q0, 0, none⟩)) := h.box.cell 1
  have hcc := fun w => class_calls n w
  have hpc := fun w => pages_calls n w
  obtain ⟨z, hz⟩ : ∃ z, classZ n = z := ⟨_, rfl⟩
  rw [hz] at hcc hc
  rw [hk] at hpc
  have HCC := Lib.hid hcc
  have HPC := Lib.hid hpc
  have H := Lib.hid h
  have HR := Lib.hid hr
  clear h hr hcc hpc hk hz
  go_enter Try.func70, Try.ntmps70
  go_wp2_with fail
  refine (HCC.out _).mono ?_
  rintro e w1 ⟨rfl, hb⟩
  have HU1 : Hid (Upd [] w w1) := Lib.hid (Upd.of_below hb)
  clear hb
  go_wp2_with fail
  refine (HPC.out _).mono ?_
  rintro e w2 ⟨rfl, hb⟩
  have HU : Hid (Upd [] w w2) := Lib.hid (HU1.out.step (Upd.of_below hb : Upd [] _ _) (by simp))
  have d1 : w2.cell? ⟨s, 1, none⟩ = some (.pointer (some ⟨L.q0, 0, none⟩)) := (HU.out.cell (p := ⟨s, 1, none⟩) H.out.box.lt (by simp)).trans c1
  clear hb c1
  go_wp2_with fail
  refine (ptake_no L.q0 L.b0 L.g0 (bitsOf S.pg) k _ (H.out.upd0 HU.out).pages (by rw [bits_length]; exact H.out.wf.n2) (by omega) (by omega) HR.out).mono ?_
  rintro e w' ⟨rfl, rfl⟩
  go_wp2_with fail
  go_ret2
  exact ⟨rfl, HU.out⟩

theorem place_large (s : Nat) (L : Lay) (S : Sp) (n : Int) (k p : Nat) (w : World) (h : IsSpace w s L S) (hc : classZ n < 0) (hk : pagesZ n = k) (hk1 : 1 ≤ k) (hk2 : k ≤ 16) (hr : runZ (bitsOf S.pg) 0 k = p) :
    Calls Try.prog 70 #[.pointer (some ⟨s, 0, none⟩), .int .i64 n] w fun e w' => e = .returned (.tuple #[.int .i64 ((p : Int) * 64), .int .i64 0]) ∧ After s L S ⟨S.W, putLarge S.pg p k⟩ w w' := by
  have c1 : w.cell? ⟨s, 1, none⟩ = some (.pointer (some ⟨L.q0, 0, none⟩)) := h.box.cell 1
  have c3 : w.cell? ⟨s, 3, none⟩ = some (.map (some L.ml)) := h.box.cell 3
  have hcc := fun w => class_calls n w
  have hpc := fun w => pages_calls n w
  obtain ⟨z, hz⟩ : ∃ z, classZ n = z := ⟨_, rfl⟩
  rw [hz] at hcc hc
  rw [hk] at hpc
  obtain ⟨hp1, hp2⟩ := run_at hk1 hr
  have hp256 : p ≤ 256 := by have := h.wf.n2; omega
  have HP := Lib.hid (And.intro hp1 hp2)
  have hp64 : ok64 (p : Int) := by unfold ok64; omega
  have HP64 := Lib.hid hp64
  have HCC := Lib.hid hcc
  have HPC := Lib.hid hpc
  have H := Lib.hid h
  have HR := Lib.hid hr
  clear h hr hcc hpc hk hz hp1 hp2 hp64
  go_enter Try.func70, Try.ntmps70
  go_wp2_with fail
  refine (HCC.out _).mono ?_
  rintro e w1 ⟨rfl, hb⟩
  have HU1 : Hid (Upd [] w w1) := Lib.hid (Upd.of_below hb)
  clear hb
  go_wp2_with fail
  refine (HPC.out _).mono ?_
  rintro e w2 ⟨rfl, hb⟩
  have HU : Hid (Upd [] w w2) := Lib.hid (HU1.out.step (Upd.of_below hb : Upd [] _ _) (by simp))
  have d1 : w2.cell? ⟨s, 1, none⟩ = some (.pointer (some ⟨L.q0, 0, none⟩)) := (HU.out.cell (p := ⟨s, 1, none⟩) H.out.box.lt (by simp)).trans c1
  clear hb c1
  go_wp2_with fail
  refine (ptake_yes L.q0 L.b0 L.g0 (bitsOf S.pg) k p _ (H.out.upd0 HU.out).pages (by rw [bits_length]; exact H.out.wf.n2) hk1 HR.out).mono ?_
  rintro e w3 ⟨rfl, hP, hu⟩
  have HPG := Lib.hid hP
  have HU3 : Hid (Upd [L.g0] w w3) := Lib.hid ((HU.out.mono (by simp)).trans hu)
  have hs0 : s ∉ [L.g0] := by simpa using H.out.box.ne_ H.out.pages.2.2 (by decide)
  have d3 : w3.cell? ⟨s, 3, none⟩ = some (.map (some L.ml)) := (HU3.out.cell (p := ⟨s, 3, none⟩) H.out.box.lt hs0).trans c3
  have HM : Hid (MapV w3 L.ml 256 (largeF S.pg)) := Lib.hid (H.out.large.upd HU3.out (by simpa using (H.out.pages.2.2.ne_map H.out.large).symm))
  clear hP hu d1 hs0 c3
  go_wp2_with (at_mapUpdate; refine wpList_put_mapv rfl _ _ _ 100 3 rfl Try.underlying100 HM.out (by omega) rfl (p : Int) HP64.out (.int .i64 k) rfl rfl (rdV_int k) ?_)
  intro w4 hM4 hu4
  have HM4 := Lib.hid hM4
  have HU4 := Lib.hid hu4
  clear hM4 hu4
  go_wp2_with fail
  go_ret2
  have e1 := H.out.pages.1.ne_map H.out.large
  have e2 := H.out.pages.2.1.ne_map H.out.large
  have e3 := H.out.pages.2.2.ne_map H.out.large
  have HA : ∀ j, atP (putLarge S.pg p k) j = if j = p then .first k else if p < j ∧ j < p + k then .rest p else atP S.pg j := fun j => atP_large HP.out.1 hk1
  refine ⟨rfl, H.out.turn (E := [L.g0, L.ml]) (H.out.wf.put_large HP.out.1 hk1 HP.out.2 rfl) (fun j c l hj => ?_) (fun i hi => ?_) ((HU3.out.mono (by simp)).trans (HU4.out.mono (by simp))) ?_ ?_ ?_⟩
  · rw [HA] at hj
    split at hj
    · cases hj
    · split at hj
      · cases hj
      · exact hj
  · simp only [List.mem_cons, List.not_mem_nil, or_false] at hi
    rcases hi with rfl | rfl
    · exact .inl rfl
    · exact .inr (.inr (.inl rfl))
  · rw [bits_large HP.out.1 hk1]
    exact HPG.out.upd HU4.out (by simpa using e1) (by simpa using e2) (by simpa using e3)
  · refine ((H.out.small.upd HU3.out (by simpa using (H.out.pages.2.2.ne_map H.out.small).symm)).upd HU4.out (by simpa using H.out.apart)).congr fun x => ?_
    unfold smallF
    split
    · rfl
    · rw [HA]
      split
      · rename_i e; rw [HP.out.2 _ (by omega) (by omega)]; rfl
      · split
        · rename_i e; rw [HP.out.2 _ (by omega) (by omega)]; rfl
        · rfl
  · refine (HM4.out.tight (m := 256) fun x hx => ?_).congr fun x => ?_
    · have := H.out.wf.n2
      unfold setF at hx
      split at hx
      · rename_i e; subst e; have := HP.out.1; omega
      · obtain ⟨p', _, rfl, h1, _⟩ := largeF_in hx; omega
    · unfold setF
      by_cases e : x = p
      · subst e; rw [if_pos rfl, largeF_at, HA, if_pos rfl]; rfl
      · rw [if_neg e]
        unfold largeF
        split
        · rfl
        · have e2 : x.toNat ≠ p := by omega
          rw [HA, if_neg e2]
          split
          · rename_i e3; rw [HP.out.2 _ (by omega) (by omega)]; rfl
          · rfl

theorem place_small_full (s : Nat) (L : Lay) (S : Sp) (n : Int) (c : Nat) (w : World) (h : IsSpace w s L S) (hz : classZ n = c) (hc : c < 5) (ho : openZ S.pg c = -1) (hr : runZ (bitsOf S.pg) 0 1 = -1) :
    Calls Try.prog 70 #[.pointer (some ⟨s, 0, none⟩), .int .i64 n] w fun e w' => e = .returned (.tuple #[.int .i64 0, .int .i64 3]) ∧ Upd [] w w' := by
  have hcc := fun w => class_calls n w
  rw [hz] at hcc
  have HCC := Lib.hid hcc
  have H := Lib.hid h
  have HO := Lib.hid ho
  have HR := Lib.hid hr
  clear h hr ho hcc hz
  go_enter Try.func70, Try.ntmps70
  go_wp2_with fail
  refine (HCC.out _).mono ?_
  rintro e w1 ⟨rfl, hb⟩
  have HU1 : Hid (Upd [] w w1) := Lib.hid (Upd.of_below hb)
  clear hb
  go_wp2_with fail
  refine (first_full s L S c _ (H.out.upd0 HU1.out) hc HO.out HR.out).mono ?_
  rintro e w2 ⟨rfl, hu⟩
  have HU2 : Hid (Upd [] w w2) := Lib.hid (HU1.out.trans hu)
  clear hu
  go_wp2_with fail
  go_ret2
  exact ⟨rfl, HU2.out⟩

theorem place_small (s : Nat) (L : Lay) (S S1 : Sp) (n : Int) (c p i : Nat) (l : List Bool) (w : World) (h : IsSpace w s L S) (hz : classZ n = c) (hc : c < 5) (hf : First S c p l S1) (hi : nextZ l false 0 = i) :
    Calls Try.prog 70 #[.pointer (some ⟨s, 0, none⟩), .int .i64 n] w fun e w' => e = .returned (.tuple #[.int .i64 ((p : Int) * 64 + (i : Int) * (wordsOf c : Nat)), .int .i64 0]) ∧ After s L S ⟨S1.W, S1.pg.set p (.small c (l.set i true))⟩ w w' := by
  have hcc := fun w => class_calls n w
  rw [hz] at hcc
  have HCC := Lib.hid hcc
  have H := Lib.hid h
  have HF := Lib.hid hf
  have HI := Lib.hid hi
  have hwp := words_pos hc
  have hWO := hwp.2
  clear h hf hi hcc hz hwp
  go_enter Try.func70, Try.ntmps70
  go_wp2_with fail
  refine (HCC.out _).mono ?_
  rintro e w1 ⟨rfl, hb⟩
  have HU1 : Hid (Upd [] w w1) := Lib.hid (Upd.of_below hb)
  clear hb
  go_wp2_with fail
  refine (first_calls s L S S1 c p l _ (H.out.upd0 HU1.out) hc HF.out).mono ?_
  rintro e w2 ⟨rfl, ha⟩
  obtain ⟨L1, hA1⟩ := After.behind HU1.out ha
  have hS1 := hA1.1
  have HA := Lib.hid hA1
  clear hA1 ha
  have HAT := Lib.hid HF.out.at
  have HS := Lib.hid hS1
  have hlt := atP_in HAT.out (by simp)
  have hp256 : p < 256 := by have := hS1.wf.n2; omega
  obtain ⟨_, hll⟩ := hS1.wf.small p c l HAT.out
  have hrm := room_pos hc
  have hL : Hid (l.length ≤ 16384) := Lib.hid (by omega)
  have hil : Hid (i < l.length) := Lib.hid (by have := nextZ_range l false 0; rw [HI.out] at this; omega)
  have hfit := block_fits hc (show i < roomOf c by have := hil.out; omega)
  have hi32 : i ≤ 64 := by have := hil.out; omega
  have hiw : i * wordsOf c ≤ 64 := by omega
  have hiw' : (i : Int) * (wordsOf c : Nat) ≤ 64 := by rw [← Int.natCast_mul]; omega
  have hiw0 : 0 ≤ (i : Int) * (wordsOf c : Nat) := by rw [← Int.natCast_mul]; omega
  have hp64 : ok64 (p : Int) := by unfold ok64; omega
  have HP64 := Lib.hid hp64
  have d2 : w2.cell? ⟨s, 2, none⟩ = some (.map (some L1.ms)) := hS1.box.cell 2
  have hf : smallF L1 S1.pg p = some (.pointer (some ⟨(L1.lay p).1, 0, none⟩)) := by rw [smallF_at, HAT.out]; rfl
  have HFF := Lib.hid hf
  have HPG := Lib.hid (hS1.page p c l HAT.out)
  clear hS1 hlt hll hrm hp64 hf hfit hiw
  go_wp2_with (at_lookup; refine wpList_look_mapv rfl _ _ 99 124 rfl Try.underlying99 HS.out.small (ptrZero _) rdV_nil rfl (p : Int) HP64.out rfl ?_)
  rw [HFF.out]
  go_wp2_with fail
  refine (take_yes (L1.lay p).1 (L1.lay p).2.1 (L1.lay p).2.2 (wordsOf c) l i _ HPG.out hL.out HI.out).mono ?_
  rintro e w3 ⟨rfl, hP, hu⟩
  have HP3 := Lib.hid hP
  have HA3 : Hid (After s L1 S1 ⟨S1.W, S1.pg.set p (.small c (l.set i true))⟩ w2 w3) := Lib.hid (HS.out.bits HAT.out hP (by simp) hu)
  have hs0 : s ∉ [(L1.lay p).2.2] := by simpa using HS.out.box.ne_ HPG.out.2.2 (by decide)
  have d3 : w3.cell? ⟨s, 2, none⟩ = some (.map (some L1.ms)) := (hu.cell (p := ⟨s, 2, none⟩) HS.out.box.lt hs0).trans d2
  have HM3 : Hid (MapV w3 L1.ms 256 (smallF L1 S1.pg)) := Lib.hid (HS.out.small.upd hu (by simpa using (HPG.out.2.2.ne_map HS.out.small).symm))
  clear hP hu d2 hs0
  go_wp2_with (at_lookup; refine wpList_look_mapv rfl _ _ 99 124 rfl Try.underlying99 HM3.out (ptrZero _) rdV_nil rfl (p : Int) HP64.out rfl ?_)
  rw [HFF.out]
  go_wp2_with fail
  refine (words_any (L1.lay p).1 (L1.lay p).2.1 (L1.lay p).2.2 (wordsOf c) _ _ HP3.out).mono ?_
  rintro e w' ⟨rfl, rfl⟩
  go_wp2_with fail
  go_ret2
  exact ⟨rfl, After.step HA.out HA3.out⟩
end Go.Proofs.Ytendjhobemlhoaa
