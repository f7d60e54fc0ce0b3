/- The document's answer of layer 23: find, known, In. -/
import Derived.Test.YtnhgmmjlhhgdoaaView
import Derived.Deep.LoopGhost
import Derived.Deep.CutBlock
import Derived.Deep.DeepCutAuto
import Derived.Deep.RegionHeld3
import Derived.Deep.QuietTactic
import Derived.BigQuiet
namespace Go.Proofs.Ytnhgmmjlhhgdoaa
open Go Go.RowKit

theorem find_walk (v : Vw) (a : Int) (w : World) (S : Sees w v) (hl : v.os.length ≤ 9223372036854775807) : Calls Try.prog 65 #[v.val, .int .i64 a] w fun e w' => e = .returned (.int .i64 (findZ v.os a)) ∧ Below w.heap.size w w' := by
  have HO := Lib.hid S.obs
  clear S
  obtain ⟨oa, oc, os, ha, hc, hs, ra, rc, rs, qa, qc, qs, fa, fc, fs, pa, pc, ps, clock, serial, used, runs⟩ := v
  simp only [Vw.val] at HO hl ⊢
  have HC : Hid (∀ j : Nat, j < os.length → (os.getD j ob0).adr = a → (∀ m, m < j → (os.getD m ob0).adr ≠ a) → findZ os a = j) := Lib.hid (fun j => findZ_hit)
  have HM : Hid ((∀ m, m < os.length → (os.getD m ob0).adr ≠ a) → findZ os a = -1) := Lib.hid findZ_miss
  obtain ⟨n, hn⟩ : ∃ n, os.length = n := ⟨_, rfl⟩
  generalize hs.length = nh
  generalize rs.length = nr
  generalize qs.length = nq
  generalize fs.length = nf
  generalize ps.length = np
  rw [hn] at hl HC HM ⊢
  have HN := Lib.hid hn
  clear hn
  go_enter Try.func65, Try.ntmps65
  go_wp2_with fail
  generalize hW : World.alloc w (Obj.cells _ 30) = w1
  have HB : Hid (Blk w1 w.heap.size 30 _) := Lib.hid (by rw [← hW]; exact Blk.new _ _ _)
  have HU : Hid (Upd [] w w1) := Lib.hid (by rw [← hW]; exact (Upd.refl [] w).alloc _)
  clear hW
  have d0 := HB.out.cell 0
  simp at d0
  clear HB
  go_loopg [5] n (fun gk i wr => ∃ j : Nat, gk = n - j ∧ j ≤ n ∧ i = .int .i64 j ∧ w1 = wr ∧ Hid (∀ m, m < j → (os.getD m ob0).adr ≠ a))
  case atStart => exact ⟨0, rfl, by omega, rfl, rfl, Lib.hid (fun m h => by omega)⟩
  case round =>
    obtain ⟨j, rfl, hj, rfl, rfl, HP⟩ := hrel
    by_cases hlt : j < n
    · obtain ⟨b, off, rfl, hb, ⟨c0, _⟩, _⟩ := (HO.out.upd HU.out (by simp)).at HN.out hlt
      obtain ⟨x, hx⟩ : ∃ x, (os.getD j ob0).adr = x := ⟨_, rfl⟩
      rw [hx] at c0
      have HX := Lib.hid hx
      clear hx
      by_cases hxa : x = a
      · subst hxa
        have hc := HC.out j hlt HX.out HP.out
        have HCJ := Lib.hid hc
        clear hc
        go_wp2_with fail
        go_ret
        exact ⟨by rw [HCJ.out]; rfl, HU.out.below⟩
      · go_wp2_with fail
        go_roundg (n - (j + 1))
        case measure => omega
        case rel =>
          refine ⟨j + 1, rfl, by omega, by go_num, rfl, Lib.hid (fun m hm => ?_)⟩
          rcases Nat.eq_or_lt_of_le (show m ≤ j by omega) with rfl | h3
          · rw [HX.out]; exact hxa
          · exact HP.out m h3
    · obtain rfl : j = n := by omega
      have hc := HM.out HP.out
      have HCJ := Lib.hid hc
      clear hc
      go_wp2_with fail
      go_ret
      exact ⟨by rw [HCJ.out]; rfl, HU.out.below⟩

/-- Is an address 0, or an object's? -/
def knownB (os : List Ob) (a : Int) : Bool := decide (a = 0 ∨ 0 ≤ findZ os a)
theorem known_walk (v : Vw) (a : Int) (w : World) (S : Sees w v) (hl : v.os.length ≤ 9223372036854775807) : Calls Try.prog 64 #[v.val, .int .i64 a] w fun e w' => e = .returned (.bool (knownB v.os a)) ∧ Below w.heap.size w w' := by
  have HS := Lib.hid S
  clear S
  have HK : Hid (∀ z, findZ v.os a = z → knownB v.os a = decide (a = 0 ∨ 0 ≤ z)) := Lib.hid (fun z h => by unfold knownB; rw [h])
  by_cases h0 : a = 0
  · subst h0
    have hk : knownB v.os 0 = true := by unfold knownB; simp
    rw [hk]
    clear hk HK
    simp only [Vw.val]
    go_enter Try.func64, Try.ntmps64
    go_wp2_with fail
    go_ret
    exact ⟨rfl, ((Below.refl _ _).alloc (Nat.le_refl _) _)⟩
  · have hf := fun W (u : Upd [] w W) => find_walk v a W (HS.out.upd u (by simp)) hl
    obtain ⟨z, hz⟩ : ∃ z, findZ v.os a = z := ⟨_, rfl⟩
    have hk := HK.out z hz
    rw [hk]
    rw [hz] at hf
    clear hk hz HK
    have hz0 : decide (a = 0 ∨ 0 ≤ z) = decide (0 ≤ z) := by simp [h0]
    rw [hz0]
    clear hz0 HS hl
    simp only [Vw.val] at hf ⊢
    have HF := Lib.hid hf
    clear hf
    go_enter Try.func64, Try.ntmps64
    go_wp2_with fail
    refine (HF.out _ ((Upd.refl [] w).alloc _)).mono ?_
    rintro e w1 ⟨rfl, hb⟩
    have HU : Hid (Upd [] w w1) := Lib.hid (((Upd.refl [] w).alloc _).step (Upd.of_below hb : Upd [] _ _) (by simp))
    clear hb
    go_wp2_with fail
    go_ret
    refine ⟨?_, HU.out.below⟩
    have hbq : (a == 0) = false := by simp [h0]
    show Ending.returned (.bool (a == 0 || decide (0 ≤ z))) = _
    rw [hbq]; rfl

theorem in_walk (A : Option Addr) (xs : List Int) (c : Nat) (x : Int) (w : World) (S : IsInts w A xs) (hl : xs.length ≤ 9223372036854775807) :
    Calls Try.prog 66 #[.slice A xs.length c, .int .i64 x] w fun e w' => e = .returned (.bool (decide (x ∈ xs))) ∧ w' = w := by
  have HS : Hid (Reads w .i64 A xs) := Lib.hid S
  have HC : Hid (∀ j, j < xs.length → xs.getD j 0 = x → decide (x ∈ xs) = true) := Lib.hid (fun j hj h => by
    have := getD_mem hj
    rw [h] at this
    simp [this])
  have HM : Hid ((∀ m, m < xs.length → xs.getD m 0 ≠ x) → decide (x ∈ xs) = false) := Lib.hid (fun h => by
    simp only [decide_eq_false_iff_not]
    intro hm
    obtain ⟨m, hm, e⟩ := List.mem_iff_getElem.1 hm
    exact h m hm (by rw [getD_of hm]; exact e))
  clear S
  obtain ⟨n, hn⟩ : ∃ n, xs.length = n := ⟨_, rfl⟩
  rw [hn] at HC HM hl ⊢
  have HN := Lib.hid hn
  clear hn
  obtain ⟨r, hr⟩ : ∃ r, decide (x ∈ xs) = r := ⟨_, rfl⟩
  rw [hr] at HC HM ⊢
  clear hr
  go_enter Try.func66, Try.ntmps66
  go_wp2_with fail
  go_loopg [5] n (fun gk i wr => ∃ j : Nat, gk = n - j ∧ j ≤ n ∧ i = .int .i64 j ∧ w = wr ∧ Hid (∀ m, m < j → xs.getD m 0 ≠ x))
  case atStart => exact ⟨0, rfl, by omega, rfl, rfl, Lib.hid (fun m h => by omega)⟩
  case round =>
    obtain ⟨j, rfl, hj, rfl, rfl, HP⟩ := hrel
    by_cases hlt : j < n
    · obtain ⟨b, off, rfl, hb, c0⟩ := HS.out.at HN.out hlt
      obtain ⟨y, hy⟩ : ∃ y, xs.getD j 0 = y := ⟨_, rfl⟩
      rw [hy] at c0
      have HY := Lib.hid hy
      clear hy
      by_cases hxa : y = x
      · subst hxa
        have hc := HC.out j hlt HY.out
        subst hc
        go_wp2_with fail
        go_ret
        exact ⟨rfl, rfl⟩
      · go_wp2_with fail
        go_roundg (n - (j + 1))
        case measure => omega
        case rel =>
          refine ⟨j + 1, rfl, by omega, by go_num, rfl, Lib.hid (fun m hm => ?_)⟩
          rcases Nat.eq_or_lt_of_le (show m ≤ j by omega) with rfl | h3
          · rw [HY.out]; exact hxa
          · exact HP.out m h3
    · obtain rfl : j = n := by omega
      have hc := HM.out HP.out
      subst hc
      go_wp2_with fail
      go_ret
      exact ⟨rfl, rfl⟩
end Go.Proofs.Ytnhgmmjlhhgdoaa
