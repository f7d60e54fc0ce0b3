/- The walk of BitsWhole: at every input the law returns true, and nothing that was there has turned. -/
import Derived.Test.YtnphkgiiondjkaaBitsEnds
import Derived.Test.YtnphkgiiondjkaaOwn
import Derived.Test.YtnphkgiiondjkaaRef1
import Derived.Deep.LoopGhost
import Derived.Deep.CutBlock
import Derived.Deep.DeepCutAuto
namespace Go.Proofs.Ytnphkgiiondjkaa
open Go Go.RowKit

theorem setAll_get (l : List Bool) (is : Bool) (xs : List Int) (hx : ∀ x ∈ xs, 0 ≤ x ∧ x < l.length) (j : Nat) (hj : j < l.length) :
    (setAll l is xs).getD j false = if (j : Int) ∈ xs then is else l.getD j false := by
  induction xs generalizing l with
  | nil => simp [setAll]
  | cons x xs ih =>
    have h0 := hx x List.mem_cons_self
    have ht : setAll l is (x :: xs) = setAll (l.set x.toNat is) is xs := rfl
    rw [ht, ih (l.set x.toNat is) (fun y hy => by rw [List.length_set]; exact hx y (List.mem_cons_of_mem _ hy)) (by rw [List.length_set]; exact hj)]
    by_cases hm : (j : Int) ∈ xs
    · rw [if_pos hm, if_pos (List.mem_cons_of_mem _ hm)]
    · rw [if_neg hm]
      rw [List.getD_eq_getElem?_getD, List.getElem?_set]
      by_cases hxj : x.toNat = j
      · rw [if_pos hxj, if_pos (by omega), if_pos (by rw [show (j : Int) = x from by omega]; exact List.mem_cons_self)]
        rfl
      · rw [if_neg hxj, if_neg, List.getD_eq_getElem?_getD]
        intro h1
        rcases List.mem_cons.1 h1 with h1 | h1
        · omega
        · exact hm h1
theorem setAll_on {k : Nat} {xs : List Int} (hx : ∀ x ∈ xs, 0 ≤ x ∧ x < k) {x : Int} (hm : x ∈ xs) : hasB (setAll (List.replicate k false) true xs) x = true := by
  have h0 := hx x hm
  rw [hasB_yes h0.1, setAll_get _ _ _ (by simpa using hx) _ (by simp; omega), if_pos]
  rw [show ((x.toNat : Nat) : Int) = x from by omega]
  exact hm
theorem setAll_off {k : Nat} {xs : List Int} (hx : ∀ x ∈ xs, 0 ≤ x ∧ x < k) : setAll (setAll (List.replicate k false) true xs) false xs = List.replicate k false := by
  apply List.ext_getElem
  · simp [setAll_length]
  · intro j h1 h2
    have hj : j < k := by simpa using h2
    have hx1 : ∀ x ∈ xs, 0 ≤ x ∧ x < ((List.replicate k false).length : Nat) := by simpa using hx
    have hx2 : ∀ x ∈ xs, 0 ≤ x ∧ x < ((setAll (List.replicate k false) true xs).length : Nat) := by rw [setAll_length]; exact hx1
    have h3 := setAll_get _ false xs hx2 j (by rw [setAll_length]; simpa using hj)
    rw [setAll_get _ true xs hx1 j (by simpa using hj), rep_get] at h3
    rw [List.getD_eq_getElem?_getD, List.getElem?_eq_getElem h1] at h3
    rw [List.getElem_replicate]
    by_cases hm : (j : Int) ∈ xs
    · rw [if_pos hm] at h3; exact h3
    · rw [if_neg hm, if_neg hm] at h3; exact h3
theorem countB_rep (k : Nat) : countB (List.replicate k false) = 0 := by
  unfold countB
  rw [List.count_replicate]
  simp
/-- A list of Bits stays readable when places are set. -/
theorem IsInts.bits {w w' : World} {A : Option Addr} {xs : List Int} {g : Nat} {l : List Bool} (h : IsInts w A xs) (hu : Upd [g] w w') (hg : Blk w g 4 (bools l)) : IsInts w' A xs := by
  rcases Nat.eq_zero_or_pos xs.length with h0 | h0
  · exact .inl (List.eq_nil_of_length_eq_zero h0)
  refine h.upd hu (.inr fun a ha => ?_)
  rcases h with rfl | ⟨b, off, h1, h2, h3⟩
  · simp at h0
  · rw [ha] at h1
    simp only [Option.some.injEq] at h1
    subst h1
    intro hm
    rw [List.mem_singleton] at hm
    simp only at hm
    subst hm
    have h4 := hg.cell (off + 0)
    rw [h3 0 h0, bools_at] at h4
    rcases h5 : l[off + 0]? with _ | y <;> rw [h5] at h4 <;> simp at h4

set_option maxRecDepth 100000 in
set_option maxHeartbeats 8000000 in
theorem whole_walk (n cap N : Nat) (A : Option Addr) (xs : List Int) (odd : Int) (wi : Bool) (w : World) (hn : xs.length = n) (hl : n ≤ 9223372036854775807) (hN : N ≤ 255) (hA : Reads w .u8 A xs) (hx : ∀ v ∈ xs, 0 ≤ v ∧ v ≤ 255)
    (BO : -9223372036854775808 ≤ odd ∧ odd ≤ 9223372036854775807) :
    Calls Try.prog 11 #[.slice A n cap, .int .u8 N, .int .i64 odd, .bool wi] w fun e w' => e = .returned (.bool true) ∧ Below w.heap.size w w' := by
  obtain ⟨k, hk⟩ : ∃ k : Nat, 1 + (N : Int) % 200 = k := ⟨1 + N % 200, by omega⟩
  have hk1 : 1 ≤ k := by omega
  have hk2 : k ≤ 200 := by omega
  obtain ⟨BO1, BO2⟩ := BO
  have HN := Lib.hid hn
  have HA := Lib.hid hA
  have HX := Lib.hid hx
  clear hn hA hx
  go_enter Try.func11, Try.ntmps11
  go_wp2_with fail
  refine (bits_new_yes k _ (by omega)).mono ?_
  rintro e w1 ⟨p, g, rfl, hA, hp, hg, hb⟩
  have H := Lib.hid hA
  have HB := Lib.hid hb
  have HP := Lib.hid (And.intro hp hg)
  clear hA hb hp hg
  go_wp2_with fail
  refine (err0 _).mono ?_
  rintro e w' ⟨rfl, rfl⟩
  go_upto_block 0 with fail
  clear hk hN
  go_cut [12] (fun v wc => ∃ (m : Nat) (L : List Int), Hid (L.length = m ∧ m ≤ 30) ∧ Hid (∀ x ∈ L, 0 ≤ x ∧ x < k) ∧ Hid (Own wc w1.heap.size v L) ∧ Hid (Upd [] w1 wc))
  case first =>
    go_wp2_with fail
    go_loopg [12, 13] n (fun gk v i wr => ∃ (j : Nat) (L : List Int), gk = n - j ∧ j ≤ n ∧ j ≤ 30 ∧ i = .int .i64 j ∧ Hid (L.length = j) ∧ Hid (∀ x ∈ L, 0 ≤ x ∧ x < k) ∧ Hid (Own wr w1.heap.size v L) ∧ Hid (Upd [] w1 wr) ∧ Hid (w1.heap.size ≤ wr.heap.size))
    case atStart => exact ⟨0, [], by omega, Nat.zero_le _, Nat.zero_le _, rfl, Lib.hid rfl, Lib.hid (fun x hx => by cases hx), Lib.hid (Own.nil _ _), Lib.hid (Upd.refl _ _), Lib.hid (Nat.le_refl _)⟩
    case round =>
      obtain ⟨j, L, rfl, hj, hj30, rfl, HL, HLX, HO, HU, HS⟩ := hrel
      by_cases hlt : j < n
      · by_cases h30 : j < 30
        · obtain ⟨b, off, rfl, hb, hcell⟩ := HA.out.at HN.out hlt
          have hcr := (HU.out.cell (p := ⟨b, off + j, none⟩) (Nat.lt_of_lt_of_le hb HB.out.size) (by simp)).trans ((HB.out.cell hb).trans hcell)
          have hv := HX.out _ (getD_mem (by rw [HN.out]; exact hlt))
          obtain ⟨v, hv'⟩ := Int.eq_ofNat_of_zero_le hv.1
          rw [hv'] at hcr hv
          have hv2 : v ≤ 255 := by omega
          clear hcell hb hv' hv
          obtain ⟨y, hy⟩ : ∃ y : Nat, (v : Int) % (k : Int) = y := ⟨v % k, by omega⟩
          have HY : Hid (y < k) := Lib.hid (by
            have := Int.emod_lt_of_pos (v : Int) (show (0 : Int) < k by omega)
            omega)
          go_wp2_with (at_builtin; refine wpList_push w1 rfl _ _ rfl w1.heap.size _ L rfl (HO.out.alloc _) wr.heap.size y rfl (Blk.new _ _ _) (by rw [HL.out]; omega) (Nat.le_refl _) (HU.out.alloc _) (by have := HS.out; simp; omega) ?_)
          intro v' w2 hO2 hU2 hS2
          have HO2 := Lib.hid hO2
          have HU2 := Lib.hid hU2
          have HS2 := Lib.hid hS2
          clear hO2 hU2 hS2
          go_wp2_with fail
          go_roundg (n - (j + 1))
          case measure => omega
          case rel =>
            refine ⟨j + 1, L ++ [(y : Int)], rfl, by omega, by omega, by go_num, Lib.hid (by simp [HL.out]), Lib.hid (fun x hx => ?_), HO2, HU2, HS2⟩
            rcases List.mem_append.1 hx with hx | hx
            · exact HLX.out x hx
            · rw [List.mem_singleton] at hx
              have := HY.out
              omega
        · obtain rfl : j = 30 := by omega
          go_wp2_with fail
          go_meet
          exact ⟨30, L, Lib.hid ⟨HL.out, by omega⟩, HLX, HO, HU⟩
      · obtain rfl : j = n := by omega
        go_wp2_with fail
        go_meet
        exact ⟨j, L, Lib.hid ⟨HL.out, by omega⟩, HLX, HO, HU⟩
  case rest =>
    obtain ⟨m, L, HM, HLX, HO, HU⟩ := hcut
    clear HA HN HX
    obtain ⟨A2, cap2, hv, hI, hN0⟩ := HO.out.form
    rw [HM.out.1] at hv
    subst hv
    have HI := Lib.hid hI
    have HN0 := Lib.hid hN0
    clear hI hN0
    go_upto_region 10 with fail
    go_cut [60] (fun b wx => ∃ t : Bool, b = .bool t ∧ wx = wc ∧ Hid (t = false → odd < 0 ∨ (k : Int) ≤ odd))
    case first =>
      by_cases h1 : odd < 0
      · go_wp2_with fail
        go_meet
        exact ⟨_, rfl, rfl, Lib.hid (fun _ => .inl h1)⟩
      · by_cases h2 : odd < k
        · go_wp2_with fail
          go_meet
          exact ⟨_, rfl, rfl, Lib.hid (fun h => by simp at h)⟩
        · go_wp2_with fail
          go_meet
          exact ⟨_, rfl, rfl, Lib.hid (fun _ => .inr (by omega))⟩
    case rest =>
      obtain ⟨t, rfl, rfl, HT⟩ := hcut
      go_upto_if 60 with fail
      go_cut [2] (fun o wx => ∃ od : Int, o = .int .i64 od ∧ wx = wc ∧ Hid (od < 0 ∨ (k : Int) ≤ od))
      case first =>
        cases t with
        | true =>
          go_wp2_with fail
          go_meet
          exact ⟨-1, rfl, rfl, Lib.hid (.inl (by omega))⟩
        | false =>
          go_wp2_with fail
          go_meet
          exact ⟨odd, rfl, rfl, Lib.hid (HT.out (by simp))⟩
      case rest =>
        obtain ⟨od, rfl, rfl, HOD⟩ := hcut
        cases wi with
        | true =>
          go_wp2_with (at_builtin; refine wpList_pushes w1 rfl _ _ rfl w1.heap.size _ [] rfl (Own.empty wc HU.out.size) A2 cap2 L m HM.out.1 rfl (HI.out.upd ((Upd.refl [] wc).alloc _) (.inr (by simp))) HN0.out (by have := HM.out; simp; omega) (Nat.le_refl _) (HU.out.alloc _) (by have := HU.out.size; simp; omega) ?_)
          intro v2 w2 hO2 hU2 hS2
          have HO2 := Lib.hid hO2
          have HU2 := Lib.hid hU2
          have HS2 := Lib.hid hS2
          clear hO2 hU2 hS2 HI HN0 HU HO
          go_wp2_with (at_builtin; refine wpList_push w1 rfl _ _ rfl w1.heap.size _ L rfl (HO2.out.alloc _) w2.heap.size od rfl (Blk.new _ _ _) (by have := HM.out; omega) (Nat.le_refl _) (HU2.out.alloc _) (by have := HS2.out; simp; omega) ?_)
          intro v3 w3 hO3 hU3 hS3
          obtain ⟨A3, cap3, hv, hI3, _⟩ := hO3.form
          have hlen : (L ++ [od]).length = m + 1 := by simp [HM.out.1]
          rw [hlen] at hv
          subst hv
          have HU3 := Lib.hid hU3
          have hs := set_no p g (List.replicate k false) true A3 cap3 (L ++ [od]) w3 (H.out.upd hU3 (by simp) (by simp)) hI3 (by rw [hlen]; have := HM.out; omega) ⟨od, by simp, by
            cases hp : placeB (List.replicate k false) od with
            | false => rfl
            | true => have := placeB_true hp; have := HOD.out; simp at *; omega⟩
          rw [hlen] at hs
          have HS := Lib.hid hs
          clear hs hU3 hI3 hO3 hS3 hlen HU2 HO2 HS2
          go_wp2_with fail
          refine (HS.out).mono ?_
          rintro e w4 ⟨rfl, hb⟩
          have HU4 : Hid (Upd [] w1 w4) := Lib.hid (HU3.out.step (Upd.of_below hb : Upd [] _ _) (by simp))
          clear hb
          go_wp2_with fail
          refine (err2 _).mono ?_
          rintro e w' ⟨rfl, rfl⟩
          go_wp2_with fail
          have hq := count_any p g _ _ (H.out.upd HU4.out (by simp) (by simp)) (by simp; omega)
          rw [countB_rep k] at hq
          refine hq.mono ?_
          rintro e w' ⟨rfl, rfl⟩
          clear hq
          go_wp2_with fail
          refine (awake2_calls _).mono ?_
          rintro e w5 ⟨rfl, hb⟩
          have HF := Lib.hid (((Upd.of_below HB.out : Upd [] w w1).step HU4.out (by simp)).step (Upd.of_below hb : Upd [] _ _) (by simp))
          clear hb
          go_wp2_with fail
          go_ret
          exact ⟨rfl, HF.out.below⟩
        | false =>
          have hs := set_yes p g (List.replicate k false) true A2 cap2 L wc (H.out.upd HU.out (by simp) (by simp)) HI.out (by have := HM.out; omega) (fun x hx => placeB_yes (HLX.out x hx).1 (by have := (HLX.out x hx).2; simpa using this))
          rw [HM.out.1] at hs
          have HS := Lib.hid hs
          clear hs
          go_wp2_with fail
          refine (HS.out).mono ?_
          rintro e w2 ⟨rfl, hset, hu⟩
          have HH := Lib.hid hset
          have HI2 := Lib.hid (HI.out.bits hu (H.out.upd HU.out (by simp) (by simp)).2)
          have HU2 : Hid (Upd [g] w1 w2) := Lib.hid ((HU.out.mono (by simp)).trans hu)
          clear hset hu HI HU HO
          go_wp2_with fail
          refine (err0 _).mono ?_
          rintro e w' ⟨rfl, rfl⟩
          go_wp2_with fail
          go_loopg [16] m (fun gk i wr => ∃ j : Nat, gk = m - j ∧ j ≤ m ∧ i = .int .i64 j ∧ w2 = wr)
          case atStart => exact ⟨0, by omega, Nat.zero_le _, rfl, rfl⟩
          case round =>
            obtain ⟨j, rfl, hj, rfl, rfl⟩ := hrel
            by_cases hlt : j < m
            · have hkx : j < L.length := by rw [HM.out.1]; exact hlt
              obtain ⟨b, off, rfl, hb, hc⟩ : ∃ b off, A2 = some ⟨b, off, none⟩ ∧ b < w2.heap.size ∧ ∀ i, i < L.length → w2.cell? ⟨b, off + i, none⟩ = some (.int .i64 (L.getD i 0)) := by
                rcases HI2.out with h0 | h0
                · exfalso; rw [h0] at hkx; simp at hkx
                · exact h0
              have hc := hc j hkx
              have hon := setAll_on HLX.out (getD_mem hkx)
              obtain ⟨v, hv⟩ : ∃ v, L.getD j 0 = v := ⟨_, rfl⟩
              rw [hv] at hc hon
              have HON := Lib.hid hon
              have hm30 := HM.out.2
              clear hv hb hon hkx
              go_wp2_with fail
              have hq := bits_has p g _ v _ HH.out
              rw [HON.out] at hq
              refine hq.mono ?_
              rintro e w' ⟨rfl, rfl⟩
              clear hq
              go_wp2_with fail
              go_roundg (m - (j + 1))
              case measure => omega
              case rel => exact ⟨j + 1, rfl, by omega, by go_num, rfl⟩
            · obtain rfl : j = m := by omega
              have hs := set_yes p g _ false A2 cap2 L w2 HH.out HI2.out (by have := HM.out; omega) (fun x hx => placeB_yes (HLX.out x hx).1 (by rw [setAll_length]; have := (HLX.out x hx).2; simpa using this))
              rw [HM.out.1, setAll_off HLX.out] at hs
              have HS := Lib.hid hs
              clear hs
              go_wp2_with fail
              refine (HS.out).mono ?_
              rintro e w3 ⟨rfl, hset, hu⟩
              have HH3 := Lib.hid hset
              have HU3 := Lib.hid (HU2.out.trans hu)
              clear hset hu
              go_wp2_with fail
              refine (err0 _).mono ?_
              rintro e w' ⟨rfl, rfl⟩
              go_wp2_with fail
              have hq := count_any p g _ _ HH3.out (by simp; omega)
              rw [countB_rep k] at hq
              refine hq.mono ?_
              rintro e w' ⟨rfl, rfl⟩
              clear hq
              go_wp2_with fail
              refine (set_yes p g _ true none 0 [] _ HH3.out (.inl rfl) (by simp) (fun x hx => by cases hx)).mono ?_
              rintro e w4 ⟨rfl, _, hu⟩
              have HU4 := Lib.hid (HU3.out.trans hu)
              clear hu
              go_wp2_with fail
              refine (err0 _).mono ?_
              rintro e w' ⟨rfl, rfl⟩
              go_wp2_with fail
              refine (awake2_calls _).mono ?_
              rintro e w5 ⟨rfl, hb⟩
              have HF := Lib.hid ((((Upd.of_below HB.out : Upd [] w w1)).step HU4.out (by have := HP.out; simp; omega)).step (Upd.of_below hb : Upd [] _ _) (by simp))
              clear hb
              go_wp2_with fail
              go_ret
              exact ⟨rfl, HF.out.below⟩
end Go.Proofs.Ytnphkgiiondjkaa
