/- The document's SameInts. -/
import Derived.Test.YtpkbdmieelgdlaaGreatDoc8
import Derived.Deep.LoopGhost
import Derived.Deep.QuietTactic
import Derived.BigQuiet
namespace Go.Proofs.YtpkbdmieelgdlaaGreat
open Go Go.RowKit

theorem getD_of {α : Type} {l : List α} {d : α} {i : Nat} (hi : i < l.length) : l.getD i d = l[i] := by rw [List.getD_eq_getElem?_getD, List.getElem?_eq_getElem hi]; rfl
theorem same_calls (A B : Option Addr) (n m c d : Nat) (xs ys : List Int) (w : World) (hn : xs.length = n) (hm : ys.length = m) (hA : IsInts w A xs) (hB : IsInts w B ys) (hl : n ≤ 65536) (hl2 : m ≤ 65536) :
    Calls Tryz.prog 16 #[.slice A n c, .slice B m d] w fun e w' => e = .returned (.bool (decide (xs = ys))) ∧ ∃ q, w' = w.drewN q := by
  have HN := Lib.hid hn
  have HM := Lib.hid hm
  by_cases hne : n = m
  · subst hne
    have HA := Lib.hid hA
    have HB := Lib.hid hB
    clear hn hm hA hB
    go_enter Tryz.func16, Tryz.ntmps16
    go_wp2_with fail
    go_loopg [5] n (fun gk i wr => ∃ j q : Nat, gk = n - j ∧ j ≤ n ∧ i = .int .i64 j ∧ wr = w.drewN q ∧ Hid (∀ k, k < j → xs.getD k 0 = ys.getD k 0))
    case atStart => exact ⟨0, 0, rfl, by omega, rfl, rfl, Lib.hid (fun k h => by omega)⟩
    case round =>
      obtain ⟨j, q, rfl, hj, rfl, rfl, HE⟩ := hrel
      by_cases hlt : j < n
      · obtain ⟨b1, o1, rfl, _, c1⟩ := Reads.at HA.out HN.out hlt
        obtain ⟨b2, o2, rfl, _, c2⟩ := Reads.at HB.out HM.out hlt
        obtain ⟨x, hx⟩ : ∃ x, xs.getD j 0 = x := ⟨_, rfl⟩
        obtain ⟨y, hy⟩ : ∃ y, ys.getD j 0 = y := ⟨_, rfl⟩
        rw [hx] at c1
        rw [hy] at c2
        have HX := Lib.hid hx
        have HY := Lib.hid hy
        clear hx hy
        by_cases hxy : x = y
        · subst hxy
          go_upto_region 6 with fail
          go_quiet (fail)
          go_wp2_with fail
          go_roundg (n - (j + 1))
          case measure => omega
          case rel =>
            refine ⟨j + 1, q + nq, rfl, by omega, by go_num, by first | rfl | simp, Lib.hid (fun k hk => ?_)⟩
            rcases Nat.eq_or_lt_of_le (show k ≤ j by omega) with rfl | h3
            · rw [HX.out, HY.out]
            · exact HE.out k h3
        · go_upto_region 6 with fail
          go_quiet (fail)
          go_wp2_with fail
          go_ret
          have hd : decide (xs = ys) = false := decide_eq_false (fun h => hxy (by rw [← HX.out, ← HY.out, h]))
          exact ⟨by rw [hd]; rfl, q + nq, by first | rfl | simp⟩
      · obtain rfl : j = n := by omega
        have hd : decide (xs = ys) = true := decide_eq_true (by
          apply List.ext_getElem (by rw [HN.out, HM.out])
          intro k h1 h2
          have := HE.out k (by rw [← HN.out]; exact h1)
          rw [List.getD_eq_getElem?_getD, List.getD_eq_getElem?_getD, List.getElem?_eq_getElem h1, List.getElem?_eq_getElem h2] at this
          exact this)
        have HD := Lib.hid hd
        clear hd
        go_wp2_with fail
        go_ret
        exact ⟨by rw [HD.out]; rfl, q, rfl⟩
  · have hd : decide (xs = ys) = false := decide_eq_false (fun h => hne (by rw [← hn, ← hm, h]))
    rw [hd]
    clear hd hA hB hn hm
    go_enter Tryz.func16, Tryz.ntmps16
    go_wp2_with fail
    go_ret
    exact ⟨rfl, 0, rfl⟩
end Go.Proofs.YtpkbdmieelgdlaaGreat
