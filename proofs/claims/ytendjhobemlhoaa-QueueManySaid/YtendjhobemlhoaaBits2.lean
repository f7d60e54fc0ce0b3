/- The contracts of package bits, more: Next, Run, Count. -/
import Derived.Test.YtendjhobemlhoaaBits
import Derived.Test.YtendjhobemlhoaaBitsMath
namespace Go.Proofs.Ytendjhobemlhoaa
open Go Go.RowKit

theorem next_nil (i : Int) (is : Bool) (w : World) (B : -9223372036854775808 ≤ i ∧ i ≤ 9223372036854775807) : Calls Try.prog 93 #[.pointer none, .int .i64 i, .bool is] w fun e w' => e = .returned (.int .i64 (-1)) ∧ w = w' := by
  obtain ⟨B1, B2⟩ := B
  by_cases hi : i ≤ 0
  all_goals
    go_enter Try.func93, Try.ntmps93
    go_wp2_with fail
    refine wp_loop_rounds 1 ?_
    rw [rounds_succ]
    go_wp2_with fail
    refine (bits_size_nil _).mono ?_
    rintro e w' ⟨rfl, rfl⟩
    go_wp2_with fail
    go_ret
    exact ⟨rfl, rfl⟩

theorem next_any (p g : Nat) (l : List Bool) (i : Int) (is : Bool) (w : World) (h : IsBits w p g l) (B : -9223372036854775808 ≤ i ∧ i ≤ 9223372036854775807) (hl : l.length ≤ 16384) :
    Calls Try.prog 93 #[.pointer (some ⟨p, 0, none⟩), .int .i64 i, .bool is] w fun e w' => e = .returned (.int .i64 (nextZ l is i)) ∧ w = w' := by
  obtain ⟨B1, B2⟩ := B
  have HE : Hid (∀ r, IsNext l is i.toNat r → nextZ l is i = r) := Lib.hid (fun r h => nextZ_eq h)
  have H := Lib.hid h
  have c0 := h.1.one
  clear h
  obtain ⟨n, hn⟩ : ∃ n, l.length = n := ⟨_, rfl⟩
  have HN := Lib.hid hn
  rw [hn] at hl c0
  clear hn
  by_cases hi : i ≤ 0
  · go_enter Try.func93, Try.ntmps93
    go_wp2_with fail
    go_loopw [7] (fun i wr => ∃ k : Nat, 0 ≤ k ∧ k ≤ max 0 n ∧ i = .int .i64 k ∧ w = wr ∧ Hid (∀ j, 0 ≤ j → j < k → j < n → l.getD j false ≠ is)) (fun i _ => n - (intOf i).toNat)
    case atStart => exact ⟨0, Nat.le_refl _, by omega, rfl, rfl, Lib.hid (fun j h1 h2 => by omega)⟩
    case round =>
      obtain ⟨k, hk0, hk1, rfl, rfl, HK⟩ := hrel
      by_cases hlt : k < n
      · have c1 := H.out.2.bool k (by rw [HN.out]; exact hlt)
        obtain ⟨v, hv⟩ : ∃ v, l.getD k false = v := ⟨_, rfl⟩
        rw [hv] at c1
        have HV := Lib.hid hv
        clear hv
        by_cases hvi : v = is
        · subst hvi
          go_wp2_with fail
          have hsz := bits_size p g l w H.out
          rw [HN.out] at hsz
          refine hsz.mono ?_
          rintro e w' ⟨rfl, rfl⟩
          clear hsz
          go_wp2_with fail
          go_ret
          refine ⟨?_, rfl⟩
          rw [HE.out k (.inr ⟨k, rfl, by omega, by rw [HN.out]; exact hlt, HV.out, fun j h1 h2 => HK.out j (by omega) h2 (by omega)⟩)]
          rfl
        · have hvi' : (v == is) = false := by simpa using hvi
          go_wp2_with fail
          have hsz := bits_size p g l w H.out
          rw [HN.out] at hsz
          refine hsz.mono ?_
          rintro e w' ⟨rfl, rfl⟩
          clear hsz
          go_wp2_with fail
          go_roundw
          case rel =>
            refine ⟨k + 1, by omega, by omega, by go_num, trivial, Lib.hid (fun j h1 h2 h3 => ?_)⟩
            rcases Nat.eq_or_lt_of_le (show j ≤ k by omega) with rfl | hlt2
            · rw [HV.out]; exact hvi
            · exact HK.out j h1 hlt2 h3
          case measure => simp [intOf]; omega
      · go_wp2_with fail
        have hsz := bits_size p g l w H.out
        rw [HN.out] at hsz
        refine hsz.mono ?_
        rintro e w' ⟨rfl, rfl⟩
        clear hsz
        go_wp2_with fail
        go_ret
        refine ⟨?_, rfl⟩
        rw [HE.out (-1) (.inl ⟨rfl, fun j h1 h2 => HK.out j (by omega) (by rw [HN.out] at h2; omega) (by rw [HN.out] at h2; exact h2)⟩)]
        rfl
  · obtain ⟨s, rfl⟩ := Int.eq_ofNat_of_zero_le (show 0 ≤ i by omega)
    go_enter Try.func93, Try.ntmps93
    go_wp2_with fail
    go_loopw [7] (fun i wr => ∃ k : Nat, s ≤ k ∧ k ≤ max s n ∧ i = .int .i64 k ∧ w = wr ∧ Hid (∀ j, s ≤ j → j < k → j < n → l.getD j false ≠ is)) (fun i _ => n - (intOf i).toNat)
    case atStart => exact ⟨s, Nat.le_refl _, by omega, rfl, rfl, Lib.hid (fun j h1 h2 => by omega)⟩
    case round =>
      obtain ⟨k, hk0, hk1, rfl, rfl, HK⟩ := hrel
      by_cases hlt : k < n
      · have c1 := H.out.2.bool k (by rw [HN.out]; exact hlt)
        obtain ⟨v, hv⟩ : ∃ v, l.getD k false = v := ⟨_, rfl⟩
        rw [hv] at c1
        have HV := Lib.hid hv
        clear hv
        by_cases hvi : v = is
        · subst hvi
          go_wp2_with fail
          have hsz := bits_size p g l w H.out
          rw [HN.out] at hsz
          refine hsz.mono ?_
          rintro e w' ⟨rfl, rfl⟩
          clear hsz
          go_wp2_with fail
          go_ret
          refine ⟨?_, rfl⟩
          rw [HE.out k (.inr ⟨k, rfl, by omega, by rw [HN.out]; exact hlt, HV.out, fun j h1 h2 => HK.out j (by omega) h2 (by omega)⟩)]
          rfl
        · have hvi' : (v == is) = false := by simpa using hvi
          go_wp2_with fail
          have hsz := bits_size p g l w H.out
          rw [HN.out] at hsz
          refine hsz.mono ?_
          rintro e w' ⟨rfl, rfl⟩
          clear hsz
          go_wp2_with fail
          go_roundw
          case rel =>
            refine ⟨k + 1, by omega, by omega, by go_num, trivial, Lib.hid (fun j h1 h2 h3 => ?_)⟩
            rcases Nat.eq_or_lt_of_le (show j ≤ k by omega) with rfl | hlt2
            · rw [HV.out]; exact hvi
            · exact HK.out j h1 hlt2 h3
          case measure => simp [intOf]; omega
      · go_wp2_with fail
        have hsz := bits_size p g l w H.out
        rw [HN.out] at hsz
        refine hsz.mono ?_
        rintro e w' ⟨rfl, rfl⟩
        clear hsz
        go_wp2_with fail
        go_ret
        refine ⟨?_, rfl⟩
        rw [HE.out (-1) (.inl ⟨rfl, fun j h1 h2 => HK.out j (by omega) (by rw [HN.out] at h2; omega) (by rw [HN.out] at h2; exact h2)⟩)]
        rfl

theorem run_low (q : Option Addr) (i k : Int) (w : World) (hk : k < 1) : Calls Try.prog 89 #[.pointer q, .int .i64 i, .int .i64 k] w fun e w' => e = .returned (.int .i64 (-1)) ∧ w = w' := by
  go_enter Try.func89, Try.ntmps89
  go_wp2_with fail
  go_ret
  exact ⟨rfl, rfl⟩
theorem run_nil (i k : Int) (w : World) (B : -9223372036854775808 ≤ i ∧ i ≤ 9223372036854775807) : Calls Try.prog 89 #[.pointer none, .int .i64 i, .int .i64 k] w fun e w' => e = .returned (.int .i64 (-1)) ∧ w = w' := by
  obtain ⟨B1, B2⟩ := B
  by_cases hk : k < 1
  · exact run_low none i k w hk
  · by_cases hi : i ≤ 0
    all_goals
      go_enter Try.func89, Try.ntmps89
      go_wp2_with fail
      refine wp_loop_rounds 1 ?_
      rw [rounds_succ]
      go_wp2_with fail
      refine (bits_size_nil _).mono ?_
      rintro e w' ⟨rfl, rfl⟩
      go_wp2_with fail
      go_ret
      exact ⟨rfl, rfl⟩

theorem run_any (p g : Nat) (l : List Bool) (i k : Int) (w : World) (h : IsBits w p g l) (B : -9223372036854775808 ≤ i ∧ i ≤ 9223372036854775807) (BK : -9223372036854775808 ≤ k ∧ k ≤ 9223372036854775807) (hl : l.length ≤ 16384) :
    Calls Try.prog 89 #[.pointer (some ⟨p, 0, none⟩), .int .i64 i, .int .i64 k] w fun e w' => e = .returned (.int .i64 (runZ l i k)) ∧ w = w' := by
  by_cases hk : k < 1
  · rw [runZ_no hk]
    exact run_low _ i k w hk
  obtain ⟨B1, B2⟩ := B
  obtain ⟨K, rfl⟩ := Int.eq_ofNat_of_zero_le (show 0 ≤ k by omega)
  have hK : 1 ≤ K := by omega
  have HE : Hid (∀ r, IsRun l i.toNat K r → runZ l i K = r) := Lib.hid (fun r h => runZ_eq (by omega) h)
  have H := Lib.hid h
  have c0 := h.1.one
  clear h
  obtain ⟨n, hn⟩ : ∃ n, l.length = n := ⟨_, rfl⟩
  have HN := Lib.hid hn
  rw [hn] at hl c0
  clear hn
  by_cases hi : i ≤ 0
  · go_enter Try.func89, Try.ntmps89
    go_wp2_with fail
    go_loopw [7, 8] (fun ff i wr => ∃ k f : Nat, 0 ≤ k ∧ k ≤ max 0 n ∧ f < K ∧ 0 + f ≤ k ∧ f ≤ n ∧ ff = .int .i64 f ∧ i = .int .i64 k ∧ w = wr ∧
      Hid (∀ j, k < j + f + 1 → j < k → j < n → l.getD j false = false) ∧ Hid (∀ a, 0 ≤ a → a + f < k → a < n → ∃ j, a ≤ j ∧ j < a + K ∧ l.getD j false = true)) (fun _ i _ => n - (intOf i).toNat)
    case atStart => exact ⟨0, 0, Nat.le_refl _, by omega, by omega, by omega, by omega, rfl, rfl, rfl, Lib.hid (fun j h1 h2 => by omega), Lib.hid (fun a h1 h2 => by omega)⟩
    case round =>
      obtain ⟨k, f, hk0, hk1, hfK, hfs, hfn, rfl, rfl, rfl, HK, HB⟩ := hrel
      by_cases hlt : k < n
      · have c1 := H.out.2.bool k (by rw [HN.out]; exact hlt)
        obtain ⟨v, hv⟩ : ∃ v, l.getD k false = v := ⟨_, rfl⟩
        rw [hv] at c1
        have HV := Lib.hid hv
        clear hv
        cases v with
        | true =>
          go_wp2_with fail
          have hsz := bits_size p g l w H.out
          rw [HN.out] at hsz
          refine hsz.mono ?_
          rintro e w' ⟨rfl, rfl⟩
          clear hsz
          go_wp2_with fail
          go_roundw
          case rel =>
            refine ⟨k + 1, 0, by omega, by omega, by omega, by omega, by omega, by go_num, by go_num, trivial, Lib.hid (fun j h1 h2 h3 => by omega), Lib.hid (fun a h1 h2 h3 => ?_)⟩
            by_cases ha : a + f < k
            · exact HB.out a (by omega) ha h3
            · exact ⟨k, by omega, by omega, HV.out⟩
          case measure => simp [intOf]; omega
        | false =>
          by_cases hful : f + 1 = K
          · subst hful
            go_wp2_with fail
            have hsz := bits_size p g l w H.out
            rw [HN.out] at hsz
            refine hsz.mono ?_
            rintro e w' ⟨rfl, rfl⟩
            clear hsz
            go_wp2_with fail
            go_ret
            refine ⟨?_, rfl⟩
            rw [HE.out ((k + 1 : Nat) - (f + 1 : Nat)) (.inr ⟨k - f, by omega, by omega, by rw [HN.out]; omega, fun j h1 h2 => ?_, fun b h1 h2 => HB.out b (by omega) (by omega) (by omega)⟩)]
            · go_num
            · rcases Nat.eq_or_lt_of_le (show j ≤ k by omega) with rfl | hlt2
              · exact HV.out
              · exact HK.out j (by omega) hlt2 (by omega)
          · go_wp2_with fail
            have hsz := bits_size p g l w H.out
            rw [HN.out] at hsz
            refine hsz.mono ?_
            rintro e w' ⟨rfl, rfl⟩
            clear hsz
            go_wp2_with fail
            go_roundw
            case rel =>
              refine ⟨k + 1, f + 1, by omega, by omega, by omega, by omega, by omega, by go_num, by go_num, trivial, Lib.hid (fun j h1 h2 h3 => ?_), Lib.hid (fun a h1 h2 h3 => HB.out a (by omega) (by omega) h3)⟩
              rcases Nat.eq_or_lt_of_le (show j ≤ k by omega) with rfl | hlt2
              · exact HV.out
              · exact HK.out j (by omega) hlt2 h3
            case measure => simp [intOf]; omega
      · go_wp2_with fail
        have hsz := bits_size p g l w H.out
        rw [HN.out] at hsz
        refine hsz.mono ?_
        rintro e w' ⟨rfl, rfl⟩
        clear hsz
        go_wp2_with fail
        go_ret
        refine ⟨?_, rfl⟩
        rw [HE.out (-1) (.inl ⟨rfl, fun a h1 h2 => HB.out a (by omega) (by rw [HN.out] at h2; omega) (by rw [HN.out] at h2; omega)⟩)]
        rfl
  · obtain ⟨s, rfl⟩ := Int.eq_ofNat_of_zero_le (show 0 ≤ i by omega)
    go_enter Try.func89, Try.ntmps89
    go_wp2_with fail
    go_loopw [7, 8] (fun ff i wr => ∃ k f : Nat, s ≤ k ∧ k ≤ max s n ∧ f < K ∧ s + f ≤ k ∧ f ≤ n ∧ ff = .int .i64 f ∧ i = .int .i64 k ∧ w = wr ∧
      Hid (∀ j, k < j + f + 1 → j < k → j < n → l.getD j false = false) ∧ Hid (∀ a, s ≤ a → a + f < k → a < n → ∃ j, a ≤ j ∧ j < a + K ∧ l.getD j false = true)) (fun _ i _ => n - (intOf i).toNat)
    case atStart => exact ⟨s, 0, Nat.le_refl _, by omega, by omega, by omega, by omega, rfl, rfl, rfl, Lib.hid (fun j h1 h2 => by omega), Lib.hid (fun a h1 h2 => by omega)⟩
    case round =>
      obtain ⟨k, f, hk0, hk1, hfK, hfs, hfn, rfl, rfl, rfl, HK, HB⟩ := hrel
      by_cases hlt : k < n
      · have c1 := H.out.2.bool k (by rw [HN.out]; exact hlt)
        obtain ⟨v, hv⟩ : ∃ v, l.getD k false = v := ⟨_, rfl⟩
        rw [hv] at c1
        have HV := Lib.hid hv
        clear hv
        cases v with
        | true =>
          go_wp2_with fail
          have hsz := bits_size p g l w H.out
          rw [HN.out] at hsz
          refine hsz.mono ?_
          rintro e w' ⟨rfl, rfl⟩
          clear hsz
          go_wp2_with fail
          go_roundw
          case rel =>
            refine ⟨k + 1, 0, by omega, by omega, by omega, by omega, by omega, by go_num, by go_num, trivial, Lib.hid (fun j h1 h2 h3 => by omega), Lib.hid (fun a h1 h2 h3 => ?_)⟩
            by_cases ha : a + f < k
            · exact HB.out a (by omega) ha h3
            · exact ⟨k, by omega, by omega, HV.out⟩
          case measure => simp [intOf]; omega
        | false =>
          by_cases hful : f + 1 = K
          · subst hful
            go_wp2_with fail
            have hsz := bits_size p g l w H.out
            rw [HN.out] at hsz
            refine hsz.mono ?_
            rintro e w' ⟨rfl, rfl⟩
            clear hsz
            go_wp2_with fail
            go_ret
            refine ⟨?_, rfl⟩
            rw [HE.out ((k + 1 : Nat) - (f + 1 : Nat)) (.inr ⟨k - f, by omega, by omega, by rw [HN.out]; omega, fun j h1 h2 => ?_, fun b h1 h2 => HB.out b (by omega) (by omega) (by omega)⟩)]
            · go_num
            · rcases Nat.eq_or_lt_of_le (show j ≤ k by omega) with rfl | hlt2
              · exact HV.out
              · exact HK.out j (by omega) hlt2 (by omega)
          · go_wp2_with fail
            have hsz := bits_size p g l w H.out
            rw [HN.out] at hsz
            refine hsz.mono ?_
            rintro e w' ⟨rfl, rfl⟩
            clear hsz
            go_wp2_with fail
            go_roundw
            case rel =>
              refine ⟨k + 1, f + 1, by omega, by omega, by omega, by omega, by omega, by go_num, by go_num, trivial, Lib.hid (fun j h1 h2 h3 => ?_), Lib.hid (fun a h1 h2 h3 => HB.out a (by omega) (by omega) h3)⟩
              rcases Nat.eq_or_lt_of_le (show j ≤ k by omega) with rfl | hlt2
              · exact HV.out
              · exact HK.out j (by omega) hlt2 h3
            case measure => simp [intOf]; omega
      · go_wp2_with fail
        have hsz := bits_size p g l w H.out
        rw [HN.out] at hsz
        refine hsz.mono ?_
        rintro e w' ⟨rfl, rfl⟩
        clear hsz
        go_wp2_with fail
        go_ret
        refine ⟨?_, rfl⟩
        rw [HE.out (-1) (.inl ⟨rfl, fun a h1 h2 => HB.out a (by omega) (by rw [HN.out] at h2; omega) (by rw [HN.out] at h2; omega)⟩)]
        rfl

theorem count_nil (w : World) : Calls Try.prog 104 #[.pointer none] w fun e w' => e = .returned (.int .i64 0) ∧ w = w' := by
  go_enter Try.func104, Try.ntmps104
  go_wp2_with fail
  refine (next_nil 0 true _ (by omega)).mono ?_
  rintro e w' ⟨rfl, rfl⟩
  go_wp2_with fail
  refine wp_loop_rounds 1 ?_
  rw [rounds_succ]
  go_wp2_with fail
  go_ret
  exact ⟨rfl, rfl⟩
theorem count_any (p g : Nat) (l : List Bool) (w : World) (h : IsBits w p g l) (hl : l.length ≤ 16384) :
    Calls Try.prog 104 #[.pointer (some ⟨p, 0, none⟩)] w fun e w' => e = .returned (.int .i64 (countB l)) ∧ w = w' := by
  have H := Lib.hid h
  clear h
  obtain ⟨n, hn⟩ : ∃ n, l.length = n := ⟨_, rfl⟩
  have HN := Lib.hid hn
  rw [hn] at hl
  clear hn
  have HL : Hid (l.length ≤ 16384) := Lib.hid (by rw [HN.out]; exact hl)
  have HX : Hid (∀ s : Nat, IsNext l true s (nextZ l true s)) := Lib.hid (fun s => by simpa using isNext_nextZ l true (s : Int))
  go_enter Try.func104, Try.ntmps104
  go_wp2_with fail
  refine (next_any p g l 0 true _ H.out (by omega) HL.out).mono ?_
  rintro e w' ⟨rfl, rfl⟩
  obtain ⟨r, hr⟩ : ∃ r, nextZ l true 0 = r := ⟨_, rfl⟩
  have HR := Lib.hid hr
  rw [hr]
  clear hr
  go_wp2_with fail
  go_loopw [3, 4] (fun m i wr => ∃ (c s : Nat) (r : Int), m = .int .i64 c ∧ i = .int .i64 r ∧ s ≤ n ∧ c ≤ n ∧ (r = -1 ∨ 0 ≤ r ∧ r < n ∧ c < n) ∧ w = wr ∧ Hid (c = countB (l.take s)) ∧ Hid (nextZ l true s = r)) (fun m _ _ => n - (intOf m).toNat)
  case atStart => 
    refine ⟨0, 0, r, rfl, rfl, Nat.zero_le _, Nat.zero_le _, ?_, rfl, Lib.hid rfl, HR⟩
    rw [← HR.out]
    have := nextZ_range l true 0
    rw [HN.out] at this
    omega
  case round =>
    obtain ⟨c, s, r, rfl, rfl, hs, hc, hr, rfl, HC, HR⟩ := hrel
    rcases hr with rfl | ⟨hr0, hr1, hr2⟩
    · go_wp2_with fail
      go_ret
      have : c = countB l := by
        have h1 := HX.out s
        rw [HR.out] at h1
        rw [HC.out]
        rcases h1 with ⟨_, h2⟩ | ⟨k, h2, _⟩
        · rw [← countB_all l]
          exact (countB_flat l s l.length (by rw [HN.out]; exact hs) (Nat.le_refl _) (fun j h3 h4 => h2 j h3 h4)).symm
        · omega
      exact ⟨by rw [this]; rfl, rfl⟩
    · obtain ⟨k, rfl⟩ := Int.eq_ofNat_of_zero_le hr0
      go_wp2_with fail
      refine (next_any p g l (k + 1) true _ H.out (by omega) HL.out).mono ?_
      rintro e w' ⟨rfl, rfl⟩
      obtain ⟨r2, hr2'⟩ : ∃ r2, nextZ l true (k + 1) = r2 := ⟨_, rfl⟩
      have HR2 := Lib.hid hr2'
      rw [hr2']
      clear hr2'
      go_wp2_with fail
      go_roundw
      case rel =>
        have h1 := HX.out s
        rw [HR.out] at h1
        have hlen := HN.out
        have hkk : s ≤ k ∧ l.getD k false = true ∧ ∀ j, s ≤ j → j < k → l.getD j false ≠ true := by
          rcases h1 with ⟨h2, _⟩ | ⟨k', h2, h3, h4, h5, h6⟩
          · omega
          · obtain rfl : k = k' := by omega
            exact ⟨h3, h5, h6⟩
        have hcnt : countB (l.take (k + 1)) = c + 1 := by
          rw [countB_take l k (by omega), if_pos hkk.2.1, countB_flat l s k hkk.1 (by omega) hkk.2.2, HC.out]
        have hle := countB_le (l.take (k + 1))
        have hnr := nextZ_range l true (k + 1)
        have hx2 := HX.out (k + 1)
        rw [show ((k + 1 : Nat) : Int) = (k : Int) + 1 by omega, HR2.out] at hx2
        rw [HR2.out, hlen] at hnr
        refine ⟨c + 1, k + 1, r2, by go_num, rfl, by omega, by omega, ?_, trivial, Lib.hid hcnt.symm, HR2⟩
        rcases hx2 with ⟨h2, _⟩ | ⟨k', h2, h3, h4, h5, h6⟩
        · exact .inl h2
        · refine .inr ⟨by omega, by omega, ?_⟩
          have hc2 := countB_take l k' (by omega)
          rw [if_pos h5, countB_flat l (k + 1) k' h3 (by omega) h6, hcnt] at hc2
          have := countB_take_le l (k' + 1)
          omega
      case measure => simp [intOf]; omega
end Go.Proofs.Ytendjhobemlhoaa
