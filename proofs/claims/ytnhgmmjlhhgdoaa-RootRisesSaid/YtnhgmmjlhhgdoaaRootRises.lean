/- The walk of RootRises: at every input the law returns true, and nothing that was there has turned. -/
import Derived.Test.YtnhgmmjlhhgdoaaRootTwo
import Derived.Test.YtnhgmmjlhhgdoaaOpenL
namespace Go.Proofs.Ytnhgmmjlhhgdoaa
open Go Go.RowKit

theorem total_bound (LS : List (List Int)) (h : ∀ l ∈ LS, l.length ≤ 40) : total LS ≤ 40 * LS.length := by
  unfold total
  induction LS with
  | nil => simp
  | cons l LS ih =>
    rw [List.flatten_cons, List.length_append, List.length_cons]
    have h1 := h l List.mem_cons_self
    have h2 := ih (fun x hx => h x (List.mem_cons_of_mem _ hx))
    omega
theorem mem_take_succ {l : List Int} {d : Nat} {x : Int} (hd : d < l.length) : x ∈ l.take (d + 1) ↔ x ∈ l.take d ∨ l.getD d 0 = x := by
  rw [List.take_add_one, List.getElem?_eq_getElem hd, List.getD_eq_getElem?_getD, List.getElem?_eq_getElem hd, List.mem_append]
  simp [eq_comm]
theorem mem_flat_succ {LS : List (List Int)} {k : Nat} {x : Int} (hk : k < LS.length) : x ∈ (LS.take (k + 1)).flatten ↔ x ∈ (LS.take k).flatten ∨ x ∈ LS.getD k [] := by
  rw [(total_take LS k hk).2, List.mem_append]
theorem getD_mem_lists {LS : List (List Int)} {k : Nat} (hk : k < LS.length) : LS.getD k [] ∈ LS := by
  rw [List.getD_eq_getElem?_getD, List.getElem?_eq_getElem hk]
  exact List.getElem_mem hk

set_option maxRecDepth 100000 in
set_option maxHeartbeats 16000000 in
theorem rises_walk (n cap : Nat) (A : Option Addr) (LS : List (List Int)) (w : World) (hn : LS.length = n) (hl : n ≤ 9223372036854775807) (hA : Lists w A LS) (hb : ∀ l ∈ LS, l.length ≤ 9223372036854775807 ∧ ∀ x ∈ l, -9223372036854775808 ≤ x ∧ x ≤ 9223372036854775807) :
    Calls Try.prog 8 #[.slice A n cap] w fun e w' => e = .returned (.bool true) ∧ Below w.heap.size w w' := by
  have HN := Lib.hid hn
  have HA := Lib.hid hA
  have HB := Lib.hid hb
  clear hn hA hb
  by_cases h10 : 10 < n
  · clear hl
    go_enter Try.func8, Try.ntmps8
    go_wp2_with fail
    refine (awake11_calls _).mono ?_
    rintro e w9 ⟨rfl, hb⟩
    have HE := Lib.hid hb
    clear hb
    go_wp2_with fail
    go_ret
    exact ⟨rfl, HE.out⟩
  go_enter Try.func8, Try.ntmps8
  go_upto_block 0 with fail
  go_cut [3] (fun _ wx => w = wx ∧ Hid (∀ l ∈ LS, l.length ≤ 40))
  case first =>
    go_wp2_with fail
    go_loopg [3] n (fun gk i wr => ∃ j : Nat, gk = n - j ∧ j ≤ n ∧ i = .int .i64 j ∧ w = wr ∧ Hid (∀ k, k < j → (LS.getD k []).length ≤ 40))
    case atStart => exact ⟨0, rfl, by omega, rfl, rfl, Lib.hid (fun k h => by omega)⟩
    case round =>
      obtain ⟨j, rfl, hj, rfl, rfl, HP⟩ := hrel
      by_cases hlt : j < n
      · obtain ⟨b, off, Ai, ci, rfl, hbw, c0, _, _⟩ := HA.out.at HN.out hlt
        have hlb := (HB.out _ (getD_mem_lists (by rw [HN.out]; exact hlt))).1
        obtain ⟨x, hx⟩ : ∃ x, (LS.getD j []).length = x := ⟨_, rfl⟩
        rw [hx] at c0 hlb
        have HX := Lib.hid hx
        clear hx hbw
        by_cases h40 : 40 < x
        · go_wp2_with fail
          refine (awake11_calls _).mono ?_
          rintro e w9 ⟨rfl, hb⟩
          have HE := Lib.hid hb
          clear hb
          go_wp2_with fail
          go_ret
          exact ⟨rfl, HE.out⟩
        · go_wp2_with fail
          go_roundg (n - (j + 1))
          case measure => omega
          case rel =>
            refine ⟨j + 1, rfl, by omega, by go_num, rfl, Lib.hid (fun k hk => ?_)⟩
            rcases Nat.eq_or_lt_of_le (show k ≤ j by omega) with rfl | h3
            · rw [HX.out]; omega
            · exact HP.out k h3
      · obtain rfl : j = n := by omega
        go_wp2_with fail
        go_meet
        refine ⟨rfl, Lib.hid (fun l hl => ?_)⟩
        obtain ⟨k, hk, rfl⟩ := List.getElem_of_mem hl
        have := HP.out k (by rw [← HN.out]; exact hk)
        rw [List.getD_eq_getElem?_getD, List.getElem?_eq_getElem hk] at this
        exact this
  case rest =>
    obtain ⟨rfl, H40⟩ := hcut
    have hn10 : n ≤ 10 := by omega
    clear h10 hl
    have htot : total LS ≤ 400 := by
      have := total_bound LS H40.out
      rw [HN.out] at this
      omega
    have hmc := merge_calls A n cap LS w HN.out HA.out (by omega) (by omega)
    obtain ⟨M, hM⟩ : ∃ M, mergeZ LS.flatten = M := ⟨_, rfl⟩
    have hspec := mergeZ_spec LS.flatten
    have hML := mergeZ_length LS.flatten
    rw [hM] at hmc hspec hML
    have hM400 : M.length ≤ 400 := Nat.le_trans hML htot
    have HMC := Lib.hid hmc
    have HSP := Lib.hid hspec
    clear hmc hspec hML htot hM
    go_wp2_with fail
    refine (HMC.out).mono ?_
    rintro e w2 ⟨v, rfl, hO, hu⟩
    obtain ⟨A2, c2, hv, hI, _⟩ := hO.form
    obtain ⟨m, hm⟩ : ∃ m, M.length = m := ⟨_, rfl⟩
    rw [hm] at hv hM400
    subst hv
    have HM := Lib.hid hm
    have HI := Lib.hid hI
    have HU := Lib.hid hu
    have HL2 := Lib.hid (HA.out.upd hu (by simp))
    clear hO hI hu hm HMC
    go_upto_block 2 with fail
    go_cut [5, 6, 7, 8] (fun _ _ _ _ wx => ∃ q, wx = w2.drewN q)
    case first =>
      go_wp2_with fail
      go_loopg [5] m (fun gk i wr => ∃ j q : Nat, gk = m - j ∧ j ≤ m ∧ i = .int .i64 j ∧ wr = w2.drewN q)
      case atStart => exact ⟨0, 0, rfl, by omega, rfl, rfl⟩
      case round =>
        obtain ⟨j, q, rfl, hj, rfl, rfl⟩ := hrel
        by_cases hlt : j < m
        · obtain ⟨b1, o1, rfl, _, hc1⟩ := Reads.at HI.out HM.out hlt
          have hxm : M.getD j 0 ∈ M := getD_mem (by rw [HM.out]; exact hlt)
          obtain ⟨x, hx⟩ : ∃ x, M.getD j 0 = x := ⟨_, rfl⟩
          have hprev : ∀ i, j = i + 1 → M.getD i 0 < x := by
            rintro i rfl
            rw [← hx]
            have h1 : i + 1 < M.length := by rw [HM.out]; exact hlt
            have := List.pairwise_iff_getElem.1 HSP.out.1 i (i + 1) (by omega) h1 (by omega)
            rw [List.getD_eq_getElem?_getD, List.getD_eq_getElem?_getD, List.getElem?_eq_getElem h1, List.getElem?_eq_getElem (show i < M.length by omega)]
            exact this
          rw [hx] at hc1 hxm
          obtain ⟨hxf, hx1⟩ := (HSP.out.2 x).1 hxm
          have HXF := Lib.hid hxf
          have HXX := Lib.hid hx
          clear hxm hxf hx
          have hb1 : decide (x < (1 : Int)) = false := decide_eq_false (by omega)
          rcases Nat.eq_zero_or_pos j with rfl | hjp
          · rw [Nat.add_zero] at hc1
            clear hprev
            go_upto_region 12 with fail
            go_quiet (fail)
            go_upto_block 4 with fail
            go_cut [6, 7, 8] (fun t _ _ wx => t = .bool true ∧ ∃ q, wx = w2.drewN q)
            case first =>
              go_wp2_with fail
              go_loopg [6, 7] n (fun gk t i wr => ∃ (k q : Nat) (tb : Bool), gk = n - k ∧ k ≤ n ∧ i = .int .i64 k ∧ t = .bool tb ∧ wr = w2.drewN q ∧ Hid (tb = true ↔ x ∈ (LS.take k).flatten))
              case atStart => exact ⟨0, (q + nq), false, rfl, by omega, rfl, rfl, by simp, Lib.hid (by simp)⟩
              case round =>
                obtain ⟨k, q2, tb, rfl, hk, rfl, rfl, rfl, HT⟩ := hrel
                by_cases hkn : k < n
                · obtain ⟨b, off, Ai, ci, rfl, _, c0, hIk, _⟩ := HL2.out.at HN.out hkn
                  have hk40 := H40.out _ (getD_mem_lists (by rw [HN.out]; exact hkn))
                  obtain ⟨K, hK⟩ : ∃ K, LS.getD k [] = K := ⟨_, rfl⟩
                  rw [hK] at c0 hIk hk40
                  have HK := Lib.hid hK
                  have HIK := Lib.hid hIk
                  obtain ⟨z, hz⟩ : ∃ z, K.length = z := ⟨_, rfl⟩
                  rw [hz] at c0 hk40
                  have HZ := Lib.hid hz
                  clear hK hIk hz
                  have c0' : ∀ q, (w2.drewN q).cell? ⟨b, off + k, none⟩ = some (.slice Ai z ci) := fun q => c0
                  go_wp2_with fail
                  go_loopg [6, 8] z (fun gk t i wr => ∃ (d q : Nat) (tb : Bool), gk = z - d ∧ d ≤ z ∧ i = .int .i64 d ∧ t = .bool tb ∧ wr = w2.drewN q ∧ Hid (tb = true ↔ x ∈ (LS.take k).flatten ∨ x ∈ K.take d))
                  case atStart => exact ⟨0, _, tb, rfl, by omega, rfl, rfl, rfl, Lib.hid (by rw [HT.out]; simp)⟩
                  case round =>
                    obtain ⟨d, q3, tc, rfl, hd, rfl, rfl, rfl, HC⟩ := hrel
                    by_cases hdz : d < z
                    · obtain ⟨b3, o3, rfl, _, hc3⟩ := Reads.at HIK.out HZ.out hdz
                      have hms := mem_take_succ (l := K) (d := d) (x := x) (by rw [HZ.out]; exact hdz)
                      obtain ⟨y, hy⟩ : ∃ y, K.getD d 0 = y := ⟨_, rfl⟩
                      rw [hy] at hc3 hms
                      have HMS := Lib.hid hms
                      clear hy hms
                      cases tc with
                      | true =>
                        go_upto_region 21 with fail
                        go_quiet (fail)
                        go_wp2_with fail
                        go_roundg (z - (d + 1))
                        case measure => omega
                        case rel => exact ⟨d + 1, q3 + nq, true, rfl, by omega, by go_num, rfl, by first | rfl | simp, Lib.hid (by rw [HMS.out]; have := HC.out; simp at this ⊢; rcases this with h | h; exact .inl h; exact .inr (.inl h))⟩
                      | false =>
                        by_cases hyx : y = x
                        · subst hyx
                          go_upto_region 21 with fail
                          go_quiet (fail)
                          go_wp2_with fail
                          go_roundg (z - (d + 1))
                          case measure => omega
                          case rel => exact ⟨d + 1, q3 + nq, true, rfl, by omega, by go_num, by first | rfl | simp, by first | rfl | simp, Lib.hid (by rw [HMS.out]; simp)⟩
                        · have hyx2 : (y == x) = false := by simpa using hyx
                          go_upto_region 21 with fail
                          go_quiet (fail)
                          go_wp2_with fail
                          go_roundg (z - (d + 1))
                          case measure => omega
                          case rel => exact ⟨d + 1, q3 + nq, false, rfl, by omega, by go_num, by first | rfl | simp [hyx], by first | rfl | simp, Lib.hid (by rw [HMS.out]; have := HC.out; simp at this ⊢; exact ⟨this.1, this.2, hyx⟩)⟩
                    · obtain rfl : d = z := by omega
                      have hnext : tc = true ↔ x ∈ (LS.take (k + 1)).flatten := by
                        rw [HC.out, mem_flat_succ (by rw [HN.out]; exact hkn), HK.out, show K.take d = K from List.take_of_length_le (by rw [HZ.out]; exact Nat.le_refl _)]
                      have HNX := Lib.hid hnext
                      clear hnext
                      go_wp2_with fail
                      go_roundg (n - (k + 1))
                      case measure => omega
                      case rel => exact ⟨k + 1, q3, tc, rfl, by omega, by go_num, rfl, rfl, HNX⟩
                · obtain rfl : k = n := by omega
                  have htb : tb = true := HT.out.2 (by rw [List.take_of_length_le (by rw [HN.out]; exact Nat.le_refl _)]; exact HXF.out)
                  subst htb
                  go_wp2_with fail
                  go_meet
                  exact ⟨rfl, q2, rfl⟩
            case rest =>
              obtain ⟨rfl, q5, rfl⟩ := hcut
              go_wp2_with fail
              go_roundg (m - (0 + 1))
              case measure => omega
              case rel => exact ⟨0 + 1, q5, rfl, by omega, by go_num, rfl⟩
          · obtain ⟨i, hi⟩ : ∃ i, j = i + 1 := ⟨j - 1, by omega⟩
            have hxy := hprev i hi
            obtain ⟨b4, o4, hbo, _, hc4⟩ := Reads.at HI.out HM.out (show i < m by omega)
            simp only [Option.some.injEq, Addr.mk.injEq, and_true] at hbo
            obtain ⟨rfl, rfl⟩ := hbo
            obtain ⟨y, hy⟩ : ∃ y, M.getD i 0 = y := ⟨_, rfl⟩
            rw [hy] at hc4 hxy
            clear hy hprev
            have hb2 : decide (x ≤ y) = false := decide_eq_false (by omega)
            have hii : (j : Int) - 1 = i := by omega
            have him : (i : Int) < (m : Int) := by omega
            have hb3 : decide ((0 : Int) < (j : Int)) = true := decide_eq_true (by omega)
            clear hi
            go_upto_region 12 with fail
            go_quiet (fail)
            clear hii him
            go_upto_block 4 with fail
            go_cut [6, 7, 8] (fun t _ _ wx => t = .bool true ∧ ∃ q, wx = w2.drewN q)
            case first =>
              go_wp2_with fail
              go_loopg [6, 7] n (fun gk t i wr => ∃ (k q : Nat) (tb : Bool), gk = n - k ∧ k ≤ n ∧ i = .int .i64 k ∧ t = .bool tb ∧ wr = w2.drewN q ∧ Hid (tb = true ↔ x ∈ (LS.take k).flatten))
              case atStart => exact ⟨0, (q + nq), false, rfl, by omega, rfl, rfl, by simp, Lib.hid (by simp)⟩
              case round =>
                obtain ⟨k, q2, tb, rfl, hk, rfl, rfl, rfl, HT⟩ := hrel
                by_cases hkn : k < n
                · obtain ⟨b, off, Ai, ci, rfl, _, c0, hIk, _⟩ := HL2.out.at HN.out hkn
                  have hk40 := H40.out _ (getD_mem_lists (by rw [HN.out]; exact hkn))
                  obtain ⟨K, hK⟩ : ∃ K, LS.getD k [] = K := ⟨_, rfl⟩
                  rw [hK] at c0 hIk hk40
                  have HK := Lib.hid hK
                  have HIK := Lib.hid hIk
                  obtain ⟨z, hz⟩ : ∃ z, K.length = z := ⟨_, rfl⟩
                  rw [hz] at c0 hk40
                  have HZ := Lib.hid hz
                  clear hK hIk hz
                  have c0' : ∀ q, (w2.drewN q).cell? ⟨b, off + k, none⟩ = some (.slice Ai z ci) := fun q => c0
                  go_wp2_with fail
                  go_loopg [6, 8] z (fun gk t i wr => ∃ (d q : Nat) (tb : Bool), gk = z - d ∧ d ≤ z ∧ i = .int .i64 d ∧ t = .bool tb ∧ wr = w2.drewN q ∧ Hid (tb = true ↔ x ∈ (LS.take k).flatten ∨ x ∈ K.take d))
                  case atStart => exact ⟨0, _, tb, rfl, by omega, rfl, rfl, rfl, Lib.hid (by rw [HT.out]; simp)⟩
                  case round =>
                    obtain ⟨d, q3, tc, rfl, hd, rfl, rfl, rfl, HC⟩ := hrel
                    by_cases hdz : d < z
                    · obtain ⟨b3, o3, rfl, _, hc3⟩ := Reads.at HIK.out HZ.out hdz
                      have hms := mem_take_succ (l := K) (d := d) (x := x) (by rw [HZ.out]; exact hdz)
                      obtain ⟨y, hy⟩ : ∃ y, K.getD d 0 = y := ⟨_, rfl⟩
                      rw [hy] at hc3 hms
                      have HMS := Lib.hid hms
                      clear hy hms
                      cases tc with
                      | true =>
                        go_upto_region 21 with fail
                        go_quiet (fail)
                        go_wp2_with fail
                        go_roundg (z - (d + 1))
                        case measure => omega
                        case rel => exact ⟨d + 1, q3 + nq, true, rfl, by omega, by go_num, rfl, by first | rfl | simp, Lib.hid (by rw [HMS.out]; have := HC.out; simp at this ⊢; rcases this with h | h; exact .inl h; exact .inr (.inl h))⟩
                      | false =>
                        by_cases hyx : y = x
                        · subst hyx
                          go_upto_region 21 with fail
                          go_quiet (fail)
                          go_wp2_with fail
                          go_roundg (z - (d + 1))
                          case measure => omega
                          case rel => exact ⟨d + 1, q3 + nq, true, rfl, by omega, by go_num, by first | rfl | simp, by first | rfl | simp, Lib.hid (by rw [HMS.out]; simp)⟩
                        · have hyx2 : (y == x) = false := by simpa using hyx
                          go_upto_region 21 with fail
                          go_quiet (fail)
                          go_wp2_with fail
                          go_roundg (z - (d + 1))
                          case measure => omega
                          case rel => exact ⟨d + 1, q3 + nq, false, rfl, by omega, by go_num, by first | rfl | simp [hyx], by first | rfl | simp, Lib.hid (by rw [HMS.out]; have := HC.out; simp at this ⊢; exact ⟨this.1, this.2, hyx⟩)⟩
                    · obtain rfl : d = z := by omega
                      have hnext : tc = true ↔ x ∈ (LS.take (k + 1)).flatten := by
                        rw [HC.out, mem_flat_succ (by rw [HN.out]; exact hkn), HK.out, show K.take d = K from List.take_of_length_le (by rw [HZ.out]; exact Nat.le_refl _)]
                      have HNX := Lib.hid hnext
                      clear hnext
                      go_wp2_with fail
                      go_roundg (n - (k + 1))
                      case measure => omega
                      case rel => exact ⟨k + 1, q3, tc, rfl, by omega, by go_num, rfl, rfl, HNX⟩
                · obtain rfl : k = n := by omega
                  have htb : tb = true := HT.out.2 (by rw [List.take_of_length_le (by rw [HN.out]; exact Nat.le_refl _)]; exact HXF.out)
                  subst htb
                  go_wp2_with fail
                  go_meet
                  exact ⟨rfl, q2, rfl⟩
            case rest =>
              obtain ⟨rfl, q5, rfl⟩ := hcut
              go_wp2_with fail
              go_roundg (m - (j + 1))
              case measure => omega
              case rel => exact ⟨j + 1, q5, rfl, by omega, by go_num, rfl⟩
        · obtain rfl : j = m := by omega
          go_wp2_with fail
          go_meet
          exact ⟨q, rfl⟩
    case rest =>
      obtain ⟨q, rfl⟩ := hcut
      go_upto_block 8 with fail
      go_cut [9, 10, 11, 12] (fun _ _ _ _ wx => ∃ q, wx = w2.drewN q)
      case first =>
        go_wp2_with fail
        go_loopg [9] n (fun gk i wr => ∃ k q : Nat, gk = n - k ∧ k ≤ n ∧ i = .int .i64 k ∧ wr = w2.drewN q)
        case atStart => exact ⟨0, q, rfl, by omega, rfl, rfl⟩
        case round =>
          obtain ⟨k, q2, rfl, hk, rfl, rfl⟩ := hrel
          by_cases hkn : k < n
          · obtain ⟨b, off, Ai, ci, rfl, _, c0, hIk, _⟩ := HL2.out.at HN.out hkn
            have hk40 := H40.out _ (getD_mem_lists (by rw [HN.out]; exact hkn))
            obtain ⟨K, hK⟩ : ∃ K, LS.getD k [] = K := ⟨_, rfl⟩
            rw [hK] at c0 hIk hk40
            have HK := Lib.hid hK
            have HIK := Lib.hid hIk
            obtain ⟨z, hz⟩ : ∃ z, K.length = z := ⟨_, rfl⟩
            rw [hz] at c0 hk40
            have HZ := Lib.hid hz
            clear hK hIk hz
            have c0' : ∀ q, (w2.drewN q).cell? ⟨b, off + k, none⟩ = some (.slice Ai z ci) := fun q => c0
            go_wp2_with fail
            go_loopg [10] z (fun gk i wr => ∃ d q : Nat, gk = z - d ∧ d ≤ z ∧ i = .int .i64 d ∧ wr = w2.drewN q)
            case atStart => exact ⟨0, q2, rfl, by omega, rfl, rfl⟩
            case round =>
              obtain ⟨d, q3, rfl, hd, rfl, rfl⟩ := hrel
              by_cases hdz : d < z
              · obtain ⟨b3, o3, rfl, _, hc3⟩ := Reads.at HIK.out HZ.out hdz
                have hmemK : K.getD d 0 ∈ LS.flatten := by
                  refine List.mem_flatten.2 ⟨K, ?_, getD_mem (by rw [HZ.out]; exact hdz)⟩
                  rw [← HK.out]
                  exact getD_mem_lists (by rw [HN.out]; exact hkn)
                obtain ⟨y, hy⟩ : ∃ y, K.getD d 0 = y := ⟨_, rfl⟩
                rw [hy] at hc3 hmemK
                have HMK := Lib.hid hmemK
                clear hy hmemK
                have hc3' : ∀ q, (w2.drewN q).cell? ⟨b3, o3 + d, none⟩ = some (.int .i64 y) := fun q => hc3
                obtain ⟨t0, ht0⟩ : ∃ t0, decide (y < (1 : Int)) = t0 := ⟨_, rfl⟩
                have HT0 := Lib.hid ht0
                clear ht0
                go_upto_block 12 with fail
                simp only [HT0.out]
                go_cut [11, 12] (fun t _ wx => t = .bool true ∧ ∃ q, wx = w2.drewN q)
                case first =>
                  go_wp2_with fail
                  go_loopg [11, 12] m (fun gk t i wr => ∃ (e q : Nat) (tb : Bool), gk = m - e ∧ e ≤ m ∧ i = .int .i64 e ∧ t = .bool tb ∧ wr = w2.drewN q ∧ Hid (tb = true ↔ y < 1 ∨ y ∈ M.take e))
                  case atStart => exact ⟨0, q3, t0, rfl, by omega, rfl, rfl, rfl, Lib.hid (by rw [← HT0.out]; simp)⟩
                  case round =>
                    obtain ⟨e, q4, tb, rfl, he, rfl, rfl, rfl, HC⟩ := hrel
                    by_cases hem : e < m
                    · obtain ⟨b1, o1, rfl, _, hc1⟩ := Reads.at HI.out HM.out hem
                      have hms := mem_take_succ (l := M) (d := e) (x := y) (by rw [HM.out]; exact hem)
                      obtain ⟨x, hx⟩ : ∃ x, M.getD e 0 = x := ⟨_, rfl⟩
                      rw [hx] at hc1 hms
                      have HMS := Lib.hid hms
                      clear hx hms
                      cases tb with
                      | true =>
                        go_upto_region 34 with fail
                        go_quiet (fail)
                        go_wp2_with fail
                        go_roundg (m - (e + 1))
                        case measure => omega
                        case rel => exact ⟨e + 1, q4 + nq, true, rfl, by omega, by go_num, rfl, by first | rfl | simp, Lib.hid (by rw [HMS.out]; have := HC.out; simp at this ⊢; rcases this with h | h; exact .inl h; exact .inr (.inl h))⟩
                      | false =>
                        by_cases hyx : x = y
                        · subst hyx
                          go_upto_region 34 with fail
                          go_quiet (fail)
                          go_wp2_with fail
                          go_roundg (m - (e + 1))
                          case measure => omega
                          case rel => exact ⟨e + 1, q4 + nq, true, rfl, by omega, by go_num, by first | rfl | simp, by first | rfl | simp, Lib.hid (by rw [HMS.out]; simp)⟩
                        · have hyx2 : (x == y) = false := by simpa using hyx
                          go_upto_region 34 with fail
                          go_quiet (fail)
                          go_wp2_with fail
                          go_roundg (m - (e + 1))
                          case measure => omega
                          case rel => exact ⟨e + 1, q4 + nq, false, rfl, by omega, by go_num, by first | rfl | simp [hyx], by first | rfl | simp, Lib.hid (by rw [HMS.out]; have := HC.out; simp at this ⊢; exact ⟨this.1, this.2, hyx⟩)⟩
                    · obtain rfl : e = m := by omega
                      have htb : tb = true := HC.out.2 (by
                        rw [show M.take e = M from List.take_of_length_le (by rw [HM.out]; exact Nat.le_refl _)]
                        by_cases h1 : y < 1
                        · exact .inl h1
                        · exact .inr ((HSP.out.2 y).2 ⟨HMK.out, by omega⟩))
                      subst htb
                      go_wp2_with fail
                      go_meet
                      exact ⟨rfl, q4, rfl⟩
                case rest =>
                  obtain ⟨rfl, q5, rfl⟩ := hcut
                  go_wp2_with fail
                  go_roundg (z - (d + 1))
                  case measure => omega
                  case rel => exact ⟨d + 1, q5, rfl, by omega, by go_num, rfl⟩
              · obtain rfl : d = z := by omega
                go_wp2_with fail
                go_roundg (n - (k + 1))
                case measure => omega
                case rel => exact ⟨k + 1, q3, rfl, by omega, by go_num, rfl⟩
          · obtain rfl : k = n := by omega
            go_wp2_with fail
            go_meet
            exact ⟨q2, rfl⟩
      case rest =>
        obtain ⟨q6, rfl⟩ := hcut
        go_wp2_with fail
        refine (awake11_calls _).mono ?_
        rintro e w9 ⟨rfl, hb⟩
        have HE := Lib.hid ((HU.out.drewN q6).step (Upd.of_below hb : Upd [] _ _) (by simp))
        clear hb
        go_wp2_with fail
        go_ret
        exact ⟨rfl, HE.out.below⟩
end Go.Proofs.Ytnhgmmjlhhgdoaa
