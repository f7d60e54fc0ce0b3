/- The walk of BlockHoles: at every input the law returns true, and nothing that was there has turned. -/
import Derived.Test.YtnphkgiiondjkaaBlockFills
import Derived.Test.YtnphkgiiondjkaaReads
import Derived.Test.YtnphkgiiondjkaaRef1
namespace Go.Proofs.Ytnphkgiiondjkaa
open Go Go.RowKit

/-- What is free beside what is taken. -/
def Free (F L : List Bool) (n : Nat) : Prop := F.length = n ∧ L.length = n ∧ ∀ j, j < n → L.getD j false = !F.getD j false
theorem free_start (n : Nat) : Free (List.replicate n false) (fillB n n) n := ⟨by simp, fillB_length (Nat.le_refl _), fun j hj => by rw [fillB_get, rep_get]; simp [hj]⟩
theorem free_give {F L : List Bool} {n k : Nat} (h : Free F L n) : Free (F.set k true) (L.set k false) n := by
  refine ⟨by rw [List.length_set, h.1], by rw [List.length_set, h.2.1], fun j hj => ?_⟩
  rw [getD_set, getD_set, h.1, h.2.1]
  by_cases hk : k = j
  · rw [if_pos ⟨hk, hj⟩, if_pos ⟨hk, hj⟩]; rfl
  · rw [if_neg (fun h => hk h.1), if_neg (fun h => hk h.1)]; exact h.2.2 j hj
theorem free_same {F : List Bool} {k : Nat} (h : F.getD k false = true) : F.set k true = F := by
  apply ext_getD (by simp)
  intro j hj
  rw [getD_set]
  by_cases hk : k = j
  · subst hk; rw [List.length_set] at hj; rw [if_pos ⟨rfl, hj⟩, h]
  · rw [if_neg (fun h => hk h.1)]
theorem count_give {L : List Bool} {k : Nat} (hk : k < L.length) (h : L.getD k false = true) : countB (L.set k false) + 1 = countB L := by
  unfold countB
  have h2 : L[k] = true := by
    rw [List.getD_eq_getElem?_getD, List.getElem?_eq_getElem hk] at h
    exact h
  rw [List.count_set hk, h2]
  have : 0 < List.count true L := List.count_pos_iff.2 (h2 ▸ List.getElem_mem hk)
  simp
  omega
/-- Behind i takes. -/
def Took (F L : List Bool) (n i : Nat) : Prop := L.length = n ∧ ∀ j, j < n → L.getD j false = (decide (j < i) || !F.getD j false)
theorem took_start {F L : List Bool} {n : Nat} (h : Free F L n) : Took F L n 0 := ⟨h.2.1, fun j hj => by rw [h.2.2 j hj]; simp⟩
theorem took_skip {F L : List Bool} {n i : Nat} (h : Took F L n i) (hf : F.getD i false = false) : Took F L n (i + 1) := by
  refine ⟨h.1, fun j hj => ?_⟩
  rw [h.2 j hj]
  by_cases h1 : j = i
  · subst h1; rw [hf]; simp
  · have : (j < i) ↔ (j < i + 1) := by omega
    simp [this]
theorem took_take {F L : List Bool} {n i : Nat} (h : Took F L n i) : Took F (L.set i true) n (i + 1) := by
  refine ⟨by rw [List.length_set, h.1], fun j hj => ?_⟩
  rw [getD_set, h.1]
  by_cases h1 : i = j
  · rw [if_pos ⟨h1, hj⟩]; subst h1; simp
  · rw [if_neg (fun h => h1 h.1), h.2 j hj]
    have : (j < i) ↔ (j < i + 1) := by omega
    simp [this]
theorem took_next {F L : List Bool} {n i : Nat} (h : Took F L n i) (hi : i < n) (hf : F.getD i false = true) : nextZ L false 0 = i :=
  nextZ_eq (.inr ⟨i, rfl, by omega, by rw [h.1]; exact hi, by rw [h.2 i hi, hf]; simp, fun j h1 h2 => by rw [h.2 j (by omega)]; simp; omega⟩)
theorem took_full {F L : List Bool} {n : Nat} (h : Took F L n n) : L = fillB n n := by
  apply ext_getD (by rw [h.1, fillB_length (Nat.le_refl _)])
  intro j hj
  rw [h.1] at hj
  rw [h.2 j hj, fillB_get]
  simp [hj]

set_option maxRecDepth 100000 in
set_option maxHeartbeats 8000000 in
theorem holes5_walk (C n cap : Nat) (A : Option Addr) (xs : List Int) (w : World) (hC : C ≤ 255) (hn : xs.length = n) (hl : n ≤ 9223372036854775807) (hA : Reads w .u8 A xs) (hx : ∀ v ∈ xs, 0 ≤ v ∧ v ≤ 255) :
    Calls Try.prog 15 #[.int .u8 C, .slice A n cap] w fun e w' => e = .returned (.bool true) ∧ Below w.heap.size w w' := by
  obtain ⟨c, hc⟩ : ∃ c : Nat, (C : Int) % 5 = c := ⟨C % 5, by omega⟩
  obtain ⟨W, m, hW, hm, hW1, hW2, hm1, hm2, hdiv, _⟩ := room_of c (by omega)
  have hmk := fun W => run_make_all (P := Try.prog) 49 4 (.bool false) 1 Try.underlying49 bool_info rfl (m : Int) m rfl (by omega) (by omega) W
  have HN := Lib.hid hn
  have HA := Lib.hid hA
  have HX := Lib.hid hx
  have HD := Lib.hid hdiv
  have HNEW : Hid (∀ w, Calls Try.prog 41 #[.int .i64 c] w fun e w' => ∃ q p g, e = .returned (.tuple #[.pointer (some ⟨q, 0, none⟩), .int .i64 0]) ∧ IsPage w' q p g W (fillB m 0) ∧
    w.heap.size ≤ q ∧ w.heap.size ≤ p ∧ w.heap.size ≤ g ∧ Below w.heap.size w w') := Lib.hid (fun w => by
      rw [fillB_zero]
      have := block_new_yes c w (by omega)
      unfold NewPage at this
      rw [hW, hm] at this
      exact this)
  clear hdiv hW hm hn hA hx
  go_enter Try.func15, Try.ntmps15
  go_wp2_with fail
  refine (HNEW.out _).mono ?_
  rintro e w1 ⟨q, p, g, rfl, hA, hq, hp, hg, hbl⟩
  clear HNEW hc
  have c0 : w1.cell? ⟨q, 0, none⟩ = some (.pointer (some ⟨p, 0, none⟩)) := hA.1.cell 0
  have H := Lib.hid hA
  have HB := Lib.hid hbl
  have HG := Lib.hid (And.intro hg (And.intro hp hq))
  clear hA hbl hq hp hg
  go_wp2_with fail
  refine (err0 _).mono ?_
  rintro e w' ⟨rfl, rfl⟩
  go_wp2_with fail
  refine (words_any q p g W _ _ H.out).mono ?_
  rintro e w' ⟨rfl, rfl⟩
  go_wp2_with fail
  refine (words_any q p g W _ _ H.out).mono ?_
  rintro e w' ⟨rfl, rfl⟩
  go_upto_block 0 with fail
  simp only [HD.out]
  clear c0
  go_cut [8] (fun v wx => Hid (IsPage wx q p g W (fillB m m)) ∧ Hid (Upd [] w wx))
  case first =>
    go_wp2_with fail
    go_loopg [8] m (fun gk i wr => ∃ j : Nat, gk = m - j ∧ j ≤ m ∧ i = .int .i64 j ∧ Hid (IsPage wr q p g W (fillB m j)) ∧ Hid (Upd [] w wr))
    case atStart => exact ⟨0, rfl, by omega, rfl, H, Lib.hid (Upd.of_below HB.out)⟩
    case round =>
      obtain ⟨j, rfl, hj, rfl, HP, HU⟩ := hrel
      by_cases hlt : j < m
      · go_wp2_with fail
        refine (take_yes q p g W (fillB m j) j _ HP.out (by rw [fillB_length hj]; omega) (fillB_next hlt)).mono ?_
        rintro e w2 ⟨rfl, h2, u2⟩
        rw [fillB_set hlt] at h2
        have HP2 := Lib.hid h2
        have HU2 := Lib.hid (HU.out.step u2 (by have := HG.out; simp; omega))
        clear h2 u2
        go_wp2_with fail
        go_roundg (m - (j + 1))
        case measure => omega
        case rel => exact ⟨j + 1, rfl, by omega, by go_num, HP2, HU2⟩
      · obtain rfl : j = m := by omega
        go_wp2_with fail
        go_meet
        exact ⟨HP, HU⟩
  case rest =>
    obtain ⟨HP, HU⟩ := hcut
    go_upto_block 2 with fail
    have hR : Blk (wc.alloc (.cells (Array.replicate m (Value.bool false)) 4)) wc.heap.size 4 (bools (List.replicate m false)) := by rw [bools_zero]; exact Blk.new wc _ _
    have hP2 := HP.out.upd ((Upd.refl [] wc).alloc (.cells (Array.replicate m (Value.bool false)) 4)) (by simp) (by simp) (by simp)
    have hU2 := HU.out.alloc (.cells (Array.replicate m (Value.bool false)) 4)
    have hF : wc.heap.size ≠ g ∧ wc.heap.size ≠ p ∧ wc.heap.size ≠ q ∧ w.heap.size ≤ wc.heap.size := ⟨by have := HP.out.2.2.lt; omega, by have := HP.out.2.1.lt; omega, by have := HP.out.1.lt; omega, HU.out.size⟩
    obtain ⟨f, hf⟩ : ∃ f, wc.heap.size = f := ⟨_, rfl⟩
    obtain ⟨w2, hw2⟩ : ∃ w2, wc.alloc (.cells (Array.replicate m (Value.bool false)) 4) = w2 := ⟨_, rfl⟩
    rw [hf] at hR hF
    rw [hw2] at hR hP2 hU2
    simp only [hf, hw2]
    have HR := Lib.hid hR
    have HP2 := Lib.hid hP2
    have HU2 := Lib.hid hU2
    have HF := Lib.hid hF
    clear hR hP2 hU2 hF hf hw2 HP HU hmk
    go_cut [10, 11] (fun _ _ wx => ∃ F L : List Bool, Hid (Free F L m) ∧ Hid (IsPage wx q p g W L) ∧ Hid (Blk wx f 4 (bools F)) ∧ Hid (Upd [] w wx))
    case first =>
      go_wp2_with fail
      go_loopg [10, 11] n (fun gk ho i wr => ∃ (j h : Nat) (F L : List Bool), gk = n - j ∧ j ≤ n ∧ j ≤ 40 ∧ h ≤ j ∧ h ≤ m ∧ i = .int .i64 j ∧ ho = .int .i64 h ∧ Hid (countB L + h = m) ∧ Hid (Free F L m) ∧ Hid (IsPage wr q p g W L) ∧ Hid (Blk wr f 4 (bools F)) ∧ Hid (Upd [] w wr))
      case atStart => exact ⟨0, 0, _, _, rfl, by omega, by omega, by omega, by omega, rfl, rfl, Lib.hid (fillB_count m m), Lib.hid (free_start m), HP2, HR, HU2⟩
      case round =>
        clear HP2 HR HU2
        obtain ⟨j, h, F, L, rfl, hj, hj40, hh, hhm, rfl, rfl, HC, HFL, HP, HR, HU⟩ := hrel
        by_cases hlt : j < n
        · by_cases h40 : j < 40
          · obtain ⟨b, off, rfl, hb, hcell⟩ := HA.out.at HN.out hlt
            have hcr := (HU.out.cell (p := ⟨b, off + j, none⟩) hb (by simp)).trans hcell
            have hv := HX.out _ (getD_mem (by rw [HN.out]; exact hlt))
            obtain ⟨v, hv'⟩ := Int.eq_ofNat_of_zero_le hv.1
            rw [hv'] at hcr hv
            have hv2 : v ≤ 255 := by omega
            clear hcell hb hv' hv
            obtain ⟨k, hk⟩ : ∃ k : Nat, (v : Int) % (m : Int) = k := ⟨v % m, by omega⟩
            have hkm : k < m := by
              have := Int.emod_lt_of_pos (v : Int) (show (0 : Int) < m by omega)
              omega
            have HK := Lib.hid hk
            clear hk
            go_upto_region 15 with fail
            simp only [HK.out]
            have c1 := HR.out.bool k (by rw [HFL.out.1]; exact hkm)
            have hfl := HFL.out.2.2 k hkm
            obtain ⟨t, ht⟩ : ∃ t, F.getD k false = t := ⟨_, rfl⟩
            rw [ht] at c1 hfl
            have HT := Lib.hid ht
            have HLK := Lib.hid hfl
            have hqf : q ≠ f := HF.out.2.2.1.symm
            have HL4 : Hid (L.length ≤ 16384) := Lib.hid (by rw [HFL.out.2.1]; omega)
            clear ht hfl
            cases t with
            | true =>
              go_wp2_with fail
              refine (give_no q p g W L k _ HP.out (by rw [hasB_nat, HLK.out]; rfl)).mono ?_
              rintro e w' ⟨rfl, rfl⟩
              go_wp2_with fail
              refine (err2 _).mono ?_
              rintro e w' ⟨rfl, rfl⟩
              have c0 : wr.cell? ⟨q, 0, none⟩ = some (.pointer (some ⟨p, 0, none⟩)) := HP.out.1.cell 0
              have c2 := HR.out.frozen k
              have HP5 : Hid (IsPage (wr.setCell ⟨f, k, none⟩ (.bool true)) q p g W L) := Lib.hid (HP.out.upd ((Upd.refl [f] wr).setCell (p := ⟨f, k, none⟩) (.inl (by simp)) _) (by have := HF.out; simp; omega) (by have := HF.out; simp; omega) (by have := HF.out; simp; omega))
              have HR5 : Hid (Blk (wr.setCell ⟨f, k, none⟩ (.bool true)) f 4 (bools (F.set k true))) := Lib.hid (by rw [← bools_set]; exact HR.out.set_ k _)
              have HU5 : Hid (Upd [] w (wr.setCell ⟨f, k, none⟩ (.bool true))) := Lib.hid (HU.out.setCell (p := ⟨f, k, none⟩) (.inr HF.out.2.2.2) _)
              obtain ⟨z, hz⟩ : ∃ z : Nat, countB L = z := ⟨_, rfl⟩
              have hzm : (m : Int) - (((h : Nat)) : Int) = (z : Int) := by have h1 := HC.out; omega
              have HZ := Lib.hid hz
              have HZM := Lib.hid hzm
              clear hz hzm
              go_wp2_with fail
              have hq := bits_has p g L k _ HP5.out.2
              rw [(show hasB L (k : Int) = false from by rw [hasB_nat, HLK.out]; try rfl)] at hq
              refine hq.mono ?_
              rintro e w' ⟨rfl, rfl⟩
              clear hq
              go_wp2_with fail
              have hq := count_any p g L _ HP5.out.2 HL4.out
              rw [HZ.out] at hq
              refine hq.mono ?_
              rintro e w' ⟨rfl, rfl⟩
              clear hq
              have hzm := HZM.out
              go_wp2_with fail
              go_roundg (n - (j + 1))
              case measure => omega
              case rel => exact ⟨j + 1, h, F, L, rfl, by omega, by omega, by omega, hhm, by go_num, rfl, HC, HFL, HP5, by rw [free_same HT.out] at HR5; exact HR5, HU5⟩
            | false =>
              have HCG := Lib.hid (count_give (L := L) (k := k) (by rw [HFL.out.2.1]; exact hkm) HLK.out)
              have hh1 : h + 1 ≤ m := by have h1 := HCG.out; have h2 := HC.out; omega
              go_wp2_with fail
              refine (give_yes q p g W L k _ HP.out (by rw [hasB_nat, HLK.out]; rfl) (by rw [HFL.out.2.1]; exact hkm)).mono ?_
              rintro e w3 ⟨rfl, hp3, hu3⟩
              have c1 := (hu3.cell (p := ⟨f, k, none⟩) HR.out.lt (show f ∉ [g] by have := HF.out; simp; omega)).trans c1
              have HR3 := Lib.hid (HR.out.upd hu3 (show f ∉ [g] by have := HF.out; simp; omega))
              have HP3 := Lib.hid hp3
              have HU3 := Lib.hid (HU.out.step hu3 (by have := HG.out; simp; omega))
              clear hp3 hu3
              go_wp2_with fail
              refine (err0 _).mono ?_
              rintro e w' ⟨rfl, rfl⟩
              have c0 : w3.cell? ⟨q, 0, none⟩ = some (.pointer (some ⟨p, 0, none⟩)) := HP3.out.1.cell 0
              have c2 := HR3.out.frozen k
              have HC := Lib.hid (show countB (L.set k false) + (h + 1) = m by have h1 := HCG.out; have h2 := HC.out; omega)
              have HL4 : Hid ((L.set k false).length ≤ 16384) := Lib.hid (by rw [List.length_set]; exact HL4.out)
              have HLK : Hid ((L.set k false).getD k false = false) := Lib.hid (by rw [getD_set, if_pos ⟨rfl, by rw [HFL.out.2.1]; exact hkm⟩])
              have HP5 : Hid (IsPage (w3.setCell ⟨f, k, none⟩ (.bool true)) q p g W (L.set k false)) := Lib.hid (HP3.out.upd ((Upd.refl [f] w3).setCell (p := ⟨f, k, none⟩) (.inl (by simp)) _) (by have := HF.out; simp; omega) (by have := HF.out; simp; omega) (by have := HF.out; simp; omega))
              have HR5 : Hid (Blk (w3.setCell ⟨f, k, none⟩ (.bool true)) f 4 (bools (F.set k true))) := Lib.hid (by rw [← bools_set]; exact HR3.out.set_ k _)
              have HU5 : Hid (Upd [] w (w3.setCell ⟨f, k, none⟩ (.bool true))) := Lib.hid (HU3.out.setCell (p := ⟨f, k, none⟩) (.inr HF.out.2.2.2) _)
              obtain ⟨z, hz⟩ : ∃ z : Nat, countB (L.set k false) = z := ⟨_, rfl⟩
              have hzm : (m : Int) - ((((h + 1) : Nat)) : Int) = (z : Int) := by have h1 := HC.out; omega
              have HZ := Lib.hid hz
              have HZM := Lib.hid hzm
              clear hz hzm
              go_wp2_with fail
              have hq := bits_has p g (L.set k false) k _ HP5.out.2
              rw [(show hasB (L.set k false) (k : Int) = false from by rw [hasB_nat, HLK.out]; try rfl)] at hq
              refine hq.mono ?_
              rintro e w' ⟨rfl, rfl⟩
              clear hq
              go_wp2_with fail
              have hq := count_any p g (L.set k false) _ HP5.out.2 HL4.out
              rw [HZ.out] at hq
              refine hq.mono ?_
              rintro e w' ⟨rfl, rfl⟩
              clear hq
              have hzm := HZM.out
              go_wp2_with fail
              go_roundg (n - (j + 1))
              case measure => omega
              case rel => exact ⟨j + 1, h + 1, F.set k true, L.set k false, rfl, by omega, by omega, by omega, hh1, by go_num, by go_num, HC, Lib.hid (free_give HFL.out), HP5, HR5, HU5⟩
          · obtain rfl : j = 40 := by omega
            go_wp2_with fail
            go_meet
            exact ⟨F, L, HFL, HP, HR, HU⟩
        · obtain rfl : j = n := by omega
          go_wp2_with fail
          go_meet
          exact ⟨F, L, HFL, HP, HR, HU⟩
    case rest =>
      clear HA HN HX HP2 HR HU2
      obtain ⟨F, L, HFL, HP, HR, HU⟩ := hcut
      go_wp2_with fail
      go_loopg [14] m (fun gk i wr => ∃ (j : Nat) (L : List Bool), gk = m - j ∧ j ≤ m ∧ i = .int .i64 j ∧ Hid (Took F L m j) ∧ Hid (IsPage wr q p g W L) ∧ Hid (Blk wr f 4 (bools F)) ∧ Hid (Upd [] w wr))
      case atStart => exact ⟨0, L, rfl, by omega, rfl, Lib.hid (took_start HFL.out), HP, HR, HU⟩
      case round =>
        have HLF : Hid (F.length = m) := Lib.hid HFL.out.1
        clear HP HR HU HFL
        obtain ⟨j, L, rfl, hj, rfl, HTK, HP, HR, HU⟩ := hrel
        by_cases hlt : j < m
        · have c1 := HR.out.bool j (by rw [HLF.out]; exact hlt)
          obtain ⟨t, ht⟩ : ∃ t, F.getD j false = t := ⟨_, rfl⟩
          rw [ht] at c1
          have HT := Lib.hid ht
          clear ht
          cases t with
          | true =>
            go_wp2_with fail
            refine (take_yes q p g W L j _ HP.out (by rw [HTK.out.1]; omega) (took_next HTK.out hlt HT.out)).mono ?_
            rintro e w3 ⟨rfl, hp3, hu3⟩
            have HP3 := Lib.hid hp3
            have HR3 := Lib.hid (HR.out.upd hu3 (show f ∉ [g] by have := HF.out; simp; omega))
            have HU3 := Lib.hid (HU.out.step hu3 (by have := HG.out; simp; omega))
            clear hp3 hu3
            go_wp2_with fail
            refine (err0 _).mono ?_
            rintro e w' ⟨rfl, rfl⟩
            go_wp2_with fail
            go_roundg (m - (j + 1))
            case measure => omega
            case rel => exact ⟨j + 1, L.set j true, rfl, by omega, by go_num, Lib.hid (took_take HTK.out), HP3, HR3, HU3⟩
          | false =>
            go_wp2_with fail
            go_roundg (m - (j + 1))
            case measure => omega
            case rel => exact ⟨j + 1, L, rfl, by omega, by go_num, Lib.hid (took_skip HTK.out HT.out), HP, HR, HU⟩
        · obtain rfl : j = m := by omega
          have hL := took_full HTK.out
          rw [hL] at HP
          have HP := HP
          clear HTK hL HR
          go_wp2_with fail
          refine (full_any q p g W _ _ HP.out (by rw [fillB_length (Nat.le_refl _)]; omega)).mono ?_
          rintro e w' ⟨rfl, n1, rfl⟩
          rw [fillB_count, fillB_length (Nat.le_refl _)]
          have hP3 : IsPage (wr.drewN n1) q p g W (fillB j j) := HP.out
          have hU3 : Upd [] w (wr.drewN n1) := HU.out.drewN n1
          obtain ⟨w3, hw3⟩ : ∃ w3, wr.drewN n1 = w3 := ⟨_, rfl⟩
          rw [hw3] at hP3 hU3 ⊢
          have HP3 := Lib.hid hP3
          have HU3 := Lib.hid hU3
          clear hP3 hU3 hw3 HP HU
          go_wp2_with fail
          have hq := empty_any q p g W _ _ HP3.out (by rw [fillB_length (Nat.le_refl _)]; omega)
          rw [fillB_count j j] at hq
          refine hq.mono ?_
          rintro e w' ⟨rfl, rfl⟩
          clear hq
          go_wp2_with fail
          refine (awake5_calls _).mono ?_
          rintro e w9 ⟨rfl, hb⟩
          have HE := Lib.hid (HU3.out.step (Upd.of_below hb : Upd [] _ _) (by simp))
          clear hb
          go_wp2_with fail
          go_ret
          exact ⟨rfl, HE.out.below⟩
end Go.Proofs.Ytnphkgiiondjkaa
