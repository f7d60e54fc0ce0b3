/- The document's In. -/
import Derived.Test.YtpkbdmieelgdlaaGreatSame0
import Derived.Test.YtpkbdmieelgdlaaGreatLinks
namespace Go.Proofs.YtpkbdmieelgdlaaGreat
open Go Go.RowKit

theorem in_walk (A : Option Addr) (xs : List Int) (c : Nat) (x : Int) (w : World) (S : IsInts w A xs) (hl : xs.length ≤ 9223372036854775807) :
    Calls Tryz.prog 28 #[.slice A xs.length c, .int .i64 x] w fun e w' => e = .returned (.bool (decide (x ∈ xs))) ∧ w' = w := by
  have HS : Hid (Reads w .i64 A xs) := Lib.hid S
  have HC : Hid (∀ j, j < xs.length → xs.getD j 0 = x → decide (x ∈ xs) = true) := Lib.hid (fun j hj h => by
    have := getD_mem hj
    rw [h] at this
    simp [this])
  have HM : Hid ((∀ m, m < xs.length → xs.getD m 0 ≠ x) → decide (x ∈ xs) = false) := Lib.hid (fun h => by
    simp only [decide_eq_false_iff_not]
    intro hm
    obtain ⟨m, hm, e⟩ := List.mem_iff_getElem.1 hm
    exact h m hm (by rw [getD_of hm]; exact e))
  clear S
  obtain ⟨n, hn⟩ : ∃ n, xs.length = n := ⟨_, rfl⟩
  rw [hn] at HC HM hl ⊢
  have HN := Lib.hid hn
  clear hn
  obtain ⟨r, hr⟩ : ∃ r, decide (x ∈ xs) = r := ⟨_, rfl⟩
  rw [hr] at HC HM ⊢
  clear hr
  go_enter Tryz.func28, Tryz.ntmps28
  go_wp2_with fail
  go_loopg [5] n (fun gk i wr => ∃ j : Nat, gk = n - j ∧ j ≤ n ∧ i = .int .i64 j ∧ w = wr ∧ Hid (∀ m, m < j → xs.getD m 0 ≠ x))
  case atStart => exact ⟨0, rfl, by omega, rfl, rfl, Lib.hid (fun m h => by omega)⟩
  case round =>
    obtain ⟨j, rfl, hj, rfl, rfl, HP⟩ := hrel
    by_cases hlt : j < n
    · obtain ⟨b, off, rfl, hb, c0⟩ := HS.out.at HN.out hlt
      obtain ⟨y, hy⟩ : ∃ y, xs.getD j 0 = y := ⟨_, rfl⟩
      rw [hy] at c0
      have HY := Lib.hid hy
      clear hy
      by_cases hxa : y = x
      · subst hxa
        have hc := HC.out j hlt HY.out
        subst hc
        go_wp2_with fail
        go_ret
        exact ⟨rfl, rfl⟩
      · go_wp2_with fail
        go_roundg (n - (j + 1))
        case measure => omega
        case rel =>
          refine ⟨j + 1, rfl, by omega, by go_num, rfl, Lib.hid (fun m hm => ?_)⟩
          rcases Nat.eq_or_lt_of_le (show m ≤ j by omega) with rfl | h3
          · rw [HY.out]; exact hxa
          · exact HP.out m h3
    · obtain rfl : j = n := by omega
      have hc := HM.out HP.out
      subst hc
      go_wp2_with fail
      go_ret
      exact ⟨rfl, rfl⟩
end Go.Proofs.YtpkbdmieelgdlaaGreat
