/- The contracts of the document's answer for places: Has, Set, Next, clear, Run, Count, over a row of Bools. -/
import Derived.Test.YtpkbdmieelgdlaaGreatP1
namespace Go.Proofs.YtpkbdmieelgdlaaGreat
open Go Go.RowKit

theorem placeB_false {l : List Bool} {x : Int} (h : placeB l x = false) : x < 0 ∨ l.length ≤ x := by
  unfold placeB at h
  rw [decide_eq_false_iff_not] at h
  omega
theorem placeB_true {l : List Bool} {x : Int} (h : placeB l x = true) : 0 ≤ x ∧ x < l.length := by
  unfold placeB at h
  rwa [decide_eq_true_eq] at h
theorem getD_mem {xs : List Int} {k : Nat} (hk : k < xs.length) : xs.getD k 0 ∈ xs := by
  rw [List.getD_eq_getElem?_getD, List.getElem?_eq_getElem hk]
  exact List.getElem_mem hk

theorem ref_next (g c : Nat) (l : List Bool) (i : Int) (is : Bool) (w : World) (h : Blk w g 4 (bools l)) (B : -9223372036854775808 ≤ i ∧ i ≤ 9223372036854775807) (hl : l.length ≤ 16384) :
    Calls Tryz.prog 89 #[.slice (some ⟨g, 0, none⟩) l.length c, .int .i64 i, .bool is] w fun e w' => e = .returned (.int .i64 (nextZ l is i)) ∧ w = w' := by
  obtain ⟨B1, B2⟩ := B
  have HE : Hid (∀ r, IsNext l is i.toNat r → nextZ l is i = r) := Lib.hid (fun r h => nextZ_eq h)
  have H := Lib.hid h
  clear h
  obtain ⟨n, hn⟩ : ∃ n, l.length = n := ⟨_, rfl⟩
  have HN := Lib.hid hn
  rw [hn] at hl ⊢
  clear hn
  by_cases hi : i < 0
  · go_enter Tryz.func89, Tryz.ntmps89
    go_wp2_with fail
    go_loopw [7] (fun i wr => ∃ k : Nat, 0 ≤ k ∧ k ≤ max 0 n ∧ i = .int .i64 k ∧ w = wr ∧ Hid (∀ j, 0 ≤ j → j < k → j < n → l.getD j false ≠ is)) (fun i _ => n - (intOf i).toNat)
    case atStart => exact ⟨0, Nat.le_refl _, by omega, rfl, rfl, Lib.hid (fun j h1 h2 => by omega)⟩
    case round =>
      obtain ⟨k, hk0, hk1, rfl, rfl, HK⟩ := hrel
      by_cases hlt : k < n
      · have c1 := H.out.bool k (by rw [HN.out]; exact hlt)
        obtain ⟨v, hv⟩ : ∃ v, l.getD k false = v := ⟨_, rfl⟩
        rw [hv] at c1
        have HV := Lib.hid hv
        clear hv
        by_cases hvi : v = is
        · subst hvi
          go_wp2_with fail
          go_ret
          refine ⟨?_, rfl⟩
          rw [HE.out k (.inr ⟨k, rfl, by omega, by rw [HN.out]; exact hlt, HV.out, fun j h1 h2 => HK.out j (by omega) h2 (by omega)⟩)]
          rfl
        · have hvi' : (v == is) = false := by simpa using hvi
          go_wp2_with fail
          go_roundw
          case rel =>
            refine ⟨k + 1, by omega, by omega, by go_num, trivial, Lib.hid (fun j h1 h2 h3 => ?_)⟩
            rcases Nat.eq_or_lt_of_le (show j ≤ k by omega) with rfl | hlt2
            · rw [HV.out]; exact hvi
            · exact HK.out j h1 hlt2 h3
          case measure => simp [intOf]; omega
      · go_wp2_with fail
        go_ret
        refine ⟨?_, rfl⟩
        rw [HE.out (-1) (.inl ⟨rfl, fun j h1 h2 => HK.out j (by omega) (by rw [HN.out] at h2; omega) (by rw [HN.out] at h2; exact h2)⟩)]
        rfl
  · obtain ⟨s, rfl⟩ := Int.eq_ofNat_of_zero_le (show 0 ≤ i by omega)
    go_enter Tryz.func89, Tryz.ntmps89
    go_wp2_with fail
    go_loopw [7] (fun i wr => ∃ k : Nat, s ≤ k ∧ k ≤ max s n ∧ i = .int .i64 k ∧ w = wr ∧ Hid (∀ j, s ≤ j → j < k → j < n → l.getD j false ≠ is)) (fun i _ => n - (intOf i).toNat)
    case atStart => exact ⟨s, Nat.le_refl _, by omega, rfl, rfl, Lib.hid (fun j h1 h2 => by omega)⟩
    case round =>
      obtain ⟨k, hk0, hk1, rfl, rfl, HK⟩ := hrel
      by_cases hlt : k < n
      · have c1 := H.out.bool k (by rw [HN.out]; exact hlt)
        obtain ⟨v, hv⟩ : ∃ v, l.getD k false = v := ⟨_, rfl⟩
        rw [hv] at c1
        have HV := Lib.hid hv
        clear hv
        by_cases hvi : v = is
        · subst hvi
          go_wp2_with fail
          go_ret
          refine ⟨?_, rfl⟩
          rw [HE.out k (.inr ⟨k, rfl, by omega, by rw [HN.out]; exact hlt, HV.out, fun j h1 h2 => HK.out j (by omega) h2 (by omega)⟩)]
          rfl
        · have hvi' : (v == is) = false := by simpa using hvi
          go_wp2_with fail
          go_roundw
          case rel =>
            refine ⟨k + 1, by omega, by omega, by go_num, trivial, Lib.hid (fun j h1 h2 h3 => ?_)⟩
            rcases Nat.eq_or_lt_of_le (show j ≤ k by omega) with rfl | hlt2
            · rw [HV.out]; exact hvi
            · exact HK.out j h1 hlt2 h3
          case measure => simp [intOf]; omega
      · go_wp2_with fail
        go_ret
        refine ⟨?_, rfl⟩
        rw [HE.out (-1) (.inl ⟨rfl, fun j h1 h2 => HK.out j (by omega) (by rw [HN.out] at h2; omega) (by rw [HN.out] at h2; exact h2)⟩)]
        rfl

/-- Are k places not so? -/
theorem ref_clear (g c : Nat) (l : List Bool) (a K : Nat) (w : World) (h : Blk w g 4 (bools l)) (hl : a + K ≤ l.length) (hl2 : l.length ≤ 16384) :
    Calls Tryz.prog 108 #[.slice (some ⟨g, 0, none⟩) l.length c, .int .i64 a, .int .i64 K] w fun e w' => e = .returned (.bool (freeB l a K)) ∧ w = w' := by
  have H := Lib.hid h
  clear h
  obtain ⟨n, hn⟩ : ∃ n, l.length = n := ⟨_, rfl⟩
  have HN := Lib.hid hn
  rw [hn] at hl hl2 ⊢
  clear hn
  go_enter Tryz.func108, Tryz.ntmps108
  go_wp2_with fail
  go_loopw [7] (fun i wr => ∃ k : Nat, a ≤ k ∧ k ≤ a + K ∧ i = .int .i64 k ∧ w = wr ∧ Hid (∀ j, a ≤ j → j < k → l.getD j false = false)) (fun i _ => a + K - (intOf i).toNat)
  case atStart => exact ⟨a, Nat.le_refl _, by omega, rfl, rfl, Lib.hid (fun j h1 h2 => by omega)⟩
  case round =>
    obtain ⟨k, hk0, hk1, rfl, rfl, HK⟩ := hrel
    by_cases hlt : k < a + K
    · have c1 := H.out.bool k (by rw [HN.out]; omega)
      obtain ⟨v, hv⟩ : ∃ v, l.getD k false = v := ⟨_, rfl⟩
      rw [hv] at c1
      have HV := Lib.hid hv
      clear hv
      cases v with
      | true =>
        go_wp2_with fail
        go_ret
        refine ⟨?_, rfl⟩
        have : freeB l a K = false := by
          cases hf : freeB l a K with
          | false => rfl
          | true => have := freeB_true.1 hf k hk0 hlt; rw [HV.out] at this; cases this
        rw [this]; rfl
      | false =>
        go_wp2_with fail
        go_roundw
        case rel =>
          refine ⟨k + 1, by omega, by omega, by go_num, trivial, Lib.hid (fun j h1 h2 => ?_)⟩
          rcases Nat.eq_or_lt_of_le (show j ≤ k by omega) with rfl | hlt2
          · exact HV.out
          · exact HK.out j h1 hlt2
        case measure => simp [intOf]; omega
    · obtain rfl : k = a + K := by omega
      go_wp2_with fail
      go_ret
      refine ⟨?_, rfl⟩
      rw [freeB_true.2 HK.out]
      rfl

theorem ref_run (g c : Nat) (l : List Bool) (i k : Int) (w : World) (h : Blk w g 4 (bools l)) (B : -9223372036854775808 ≤ i ∧ i ≤ 9223372036854775807) (hl : l.length ≤ 16384) :
    Calls Tryz.prog 87 #[.slice (some ⟨g, 0, none⟩) l.length c, .int .i64 i, .int .i64 k] w fun e w' => e = .returned (.int .i64 (runZ l i k)) ∧ w = w' := by
  by_cases hk : k < 1
  · rw [runZ_no hk]
    go_enter Tryz.func87, Tryz.ntmps87
    go_wp2_with fail
    go_ret
    exact ⟨rfl, rfl⟩
  obtain ⟨B1, B2⟩ := B
  obtain ⟨K, rfl⟩ := Int.eq_ofNat_of_zero_le (show 0 ≤ k by omega)
  have hK : 1 ≤ K := by omega
  have HE : Hid (∀ r, IsRun l i.toNat K r → runZ l i K = r) := Lib.hid (fun r h => runZ_eq (by omega) h)
  have HL := Lib.hid hl
  have H := Lib.hid h
  clear h
  obtain ⟨n, hn⟩ : ∃ n, l.length = n := ⟨_, rfl⟩
  have HN := Lib.hid hn
  rw [hn] at hl ⊢
  clear hn
  by_cases hKn : n < K
  · go_enter Tryz.func87, Tryz.ntmps87
    go_wp2_with fail
    go_ret
    refine ⟨?_, rfl⟩
    rw [HE.out (-1) (.inl ⟨rfl, fun a h1 h2 => by rw [HN.out] at h2; omega⟩)]
    rfl
  by_cases hi : i < 0
  · go_enter Tryz.func87, Tryz.ntmps87
    go_wp2_with fail
    go_loopw [7] (fun i wr => ∃ k : Nat, 0 ≤ k ∧ k ≤ max 0 (n + 1) ∧ i = .int .i64 k ∧ w = wr ∧ Hid (∀ a, 0 ≤ a → a < k → a + K ≤ n → ∃ j, a ≤ j ∧ j < a + K ∧ l.getD j false = true)) (fun i _ => n + 1 - (intOf i).toNat)
    case atStart => exact ⟨0, Nat.le_refl _, by omega, rfl, rfl, Lib.hid (fun j h1 h2 => by omega)⟩
    case round =>
      obtain ⟨k, hk0, hk1, rfl, rfl, HB⟩ := hrel
      by_cases hlt : k + K ≤ n
      · have hle : (k : Int) ≤ (n : Int) - (K : Int) := by omega
        obtain ⟨v, hv⟩ : ∃ v, freeB l k K = v := ⟨_, rfl⟩
        have HV := Lib.hid hv
        clear hv
        have HC := Lib.hid (ref_clear g c l k K w H.out (by rw [HN.out]; exact hlt) HL.out)
        rw [HN.out, HV.out] at HC
        cases v with
        | true =>
          go_wp2_with fail
          refine (HC.out).mono ?_
          rintro e w' ⟨rfl, rfl⟩
          go_wp2_with fail
          go_ret
          refine ⟨?_, rfl⟩
          rw [HE.out k (.inr ⟨k, rfl, by omega, by rw [HN.out]; omega, freeB_true.1 HV.out, fun b h1 h2 => HB.out b (by omega) h2 (by omega)⟩)]
          rfl
        | false =>
          go_wp2_with fail
          refine (HC.out).mono ?_
          rintro e w' ⟨rfl, rfl⟩
          go_wp2_with fail
          go_roundw
          case rel =>
            refine ⟨k + 1, by omega, by omega, by go_num, trivial, Lib.hid (fun a h1 h2 h3 => ?_)⟩
            rcases Nat.eq_or_lt_of_le (show a ≤ k by omega) with rfl | hlt2
            · exact freeB_false HV.out
            · exact HB.out a h1 hlt2 h3
          case measure => simp [intOf]; omega
      · have hle : ¬ (k : Int) ≤ (n : Int) - (K : Int) := by omega
        go_wp2_with fail
        go_ret
        refine ⟨?_, rfl⟩
        rw [HE.out (-1) (.inl ⟨rfl, fun a h1 h2 => HB.out a (by omega) (by rw [HN.out] at h2; omega) (by rw [HN.out] at h2; omega)⟩)]
        rfl
  · obtain ⟨s, rfl⟩ := Int.eq_ofNat_of_zero_le (show 0 ≤ i by omega)
    go_enter Tryz.func87, Tryz.ntmps87
    go_wp2_with fail
    go_loopw [7] (fun i wr => ∃ k : Nat, s ≤ k ∧ k ≤ max s (n + 1) ∧ i = .int .i64 k ∧ w = wr ∧ Hid (∀ a, s ≤ a → a < k → a + K ≤ n → ∃ j, a ≤ j ∧ j < a + K ∧ l.getD j false = true)) (fun i _ => n + 1 - (intOf i).toNat)
    case atStart => exact ⟨s, Nat.le_refl _, by omega, rfl, rfl, Lib.hid (fun j h1 h2 => by omega)⟩
    case round =>
      obtain ⟨k, hk0, hk1, rfl, rfl, HB⟩ := hrel
      by_cases hlt : k + K ≤ n
      · have hle : (k : Int) ≤ (n : Int) - (K : Int) := by omega
        obtain ⟨v, hv⟩ : ∃ v, freeB l k K = v := ⟨_, rfl⟩
        have HV := Lib.hid hv
        clear hv
        have HC := Lib.hid (ref_clear g c l k K w H.out (by rw [HN.out]; exact hlt) HL.out)
        rw [HN.out, HV.out] at HC
        cases v with
        | true =>
          go_wp2_with fail
          refine (HC.out).mono ?_
          rintro e w' ⟨rfl, rfl⟩
          go_wp2_with fail
          go_ret
          refine ⟨?_, rfl⟩
          rw [HE.out k (.inr ⟨k, rfl, by omega, by rw [HN.out]; omega, freeB_true.1 HV.out, fun b h1 h2 => HB.out b (by omega) h2 (by omega)⟩)]
          rfl
        | false =>
          go_wp2_with fail
          refine (HC.out).mono ?_
          rintro e w' ⟨rfl, rfl⟩
          go_wp2_with fail
          go_roundw
          case rel =>
            refine ⟨k + 1, by omega, by omega, by go_num, trivial, Lib.hid (fun a h1 h2 h3 => ?_)⟩
            rcases Nat.eq_or_lt_of_le (show a ≤ k by omega) with rfl | hlt2
            · exact freeB_false HV.out
            · exact HB.out a h1 hlt2 h3
          case measure => simp [intOf]; omega
      · have hle : ¬ (k : Int) ≤ (n : Int) - (K : Int) := by omega
        go_wp2_with fail
        go_ret
        refine ⟨?_, rfl⟩
        rw [HE.out (-1) (.inl ⟨rfl, fun a h1 h2 => HB.out a (by omega) (by rw [HN.out] at h2; omega) (by rw [HN.out] at h2; omega)⟩)]
        rfl

end Go.Proofs.YtpkbdmieelgdlaaGreat
