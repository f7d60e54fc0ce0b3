/- Sound over some views. -/
import Derived.Test.YtnhgmmjlhhgdoaaSndV
namespace Go.Proofs.Ytnhgmmjlhhgdoaa
open Go Go.RowKit

/-- Some views side by side, with the first rule that each breaks. -/
def Vws (w : World) (b off : Nat) (vs : List (Vw × Int)) : Prop := ∀ i, i < vs.length → (∀ k, k < 10 → w.cell? ⟨b, off + i * 10 + k, none⟩ = ((vs.getD i (vw0 none 0, 0)).1.cells)[k]?) ∧ Good w (vs.getD i (vw0 none 0, 0)).1 (vs.getD i (vw0 none 0, 0)).2
theorem Vws.upd {w w' : World} {b off : Nat} {vs : List (Vw × Int)} (h : Vws w b off vs) (hu : Upd [] w w') (hb : b < w.heap.size) : Vws w' b off vs := fun i hi =>
  ⟨fun k hk => (hu.cell (p := ⟨b, off + i * 10 + k, none⟩) hb (by simp)).trans ((h i hi).1 k hk), (h i hi).2.upd hu⟩
set_option maxRecDepth 100000 in
set_option maxHeartbeats 1600000 in
theorem sounds_walk (b off n c : Nat) (vs : List (Vw × Int)) (w : World) (hn : vs.length = n) (hl : n ≤ 9223372036854775807) (h : Vws w b off vs) (hb : b < w.heap.size) :
    Calls Try.prog 20 #[.slice (some ⟨b, off, none⟩) n c] w fun e w' => e = .returned (.bool (vs.all fun x => x.2 == 0)) ∧ Below w.heap.size w w' := by
  have HN := Lib.hid hn
  have HV := Lib.hid h
  have HALL : Hid ((∀ i, i < n → (vs.getD i (vw0 none 0, 0)).2 = 0) → (vs.all fun x => x.2 == 0) = true) := Lib.hid (fun h => by
    rw [List.all_eq_true]
    intro x hx
    obtain ⟨i, hi, rfl⟩ := List.mem_iff_getElem.1 hx
    have := h i (by omega)
    rw [getD_of hi] at this
    simp [this])
  have HNO : Hid (∀ i, i < n → (vs.getD i (vw0 none 0, 0)).2 ≠ 0 → (vs.all fun x => x.2 == 0) = false) := Lib.hid (fun i hi h => by
    rw [← Bool.not_eq_true, List.all_eq_true]
    intro h2
    have := h2 _ (getD_in (d := (vw0 none 0, 0)) (show i < vs.length by omega))
    exact h (by simpa using this))
  generalize (vs.all fun x => x.2 == 0) = R at *
  clear h hn
  go_enter Try.func20, Try.ntmps20
  go_wp2_with fail
  go_loopg [7] n (fun gk i wr => ∃ j : Nat, gk = n - j ∧ j ≤ n ∧ i = .int .i64 j ∧ Hid (Upd [] w wr) ∧ Hid (∀ m, m < j → (vs.getD m (vw0 none 0, 0)).2 = 0))
  case atStart => exact ⟨0, rfl, by omega, rfl, Lib.hid (Upd.refl _ _), Lib.hid (fun m h => by omega)⟩
  case round =>
    obtain ⟨j, rfl, hj, rfl, HU, HP⟩ := hrel
    by_cases hlt : j < n
    · obtain ⟨hc, hg⟩ := (HV.out.upd HU.out hb) j (by rw [HN.out]; exact hlt)
      have HNJ := Lib.hid (HNO.out j hlt)
      have HPN : Hid ((vs.getD j (vw0 none 0, 0)).2 = 0 → ∀ m, m < j + 1 → (vs.getD m (vw0 none 0, 0)).2 = 0) := Lib.hid (fun h m hm => by
        rcases Nat.eq_or_lt_of_le (show m ≤ j by omega) with rfl | h3
        · exact h
        · exact HP.out m h3)
      generalize (vs.getD j (vw0 none 0, 0)).1 = v at *
      generalize (vs.getD j (vw0 none 0, 0)).2 = k at *
      have hck : ∀ W, Upd [] wr W → Calls Try.prog 16 #[v.val] W fun e w' => e = .returned (.int .i64 k) ∧ Below W.heap.size W w' := fun W u => (hg.upd u).check
      obtain ⟨oa, oc, os, ha, hc', hs, ra, rc, rs, qa, qc, qs, fa, fc, fs, pa, pc, ps, clock, serial, used, runs⟩ := v
      have c0 := hc 0 (by decide)
      have c1 := hc 1 (by decide)
      have c2 := hc 2 (by decide)
      have c3 := hc 3 (by decide)
      have c4 := hc 4 (by decide)
      have c5 := hc 5 (by decide)
      have c6 := hc 6 (by decide)
      have c7 := hc 7 (by decide)
      have c8 := hc 8 (by decide)
      have c9 := hc 9 (by decide)
      clear hc hg
      simp only [Vw.cells, Vw.val, List.getElem?_cons_zero, List.getElem?_cons_succ, Nat.add_zero] at c0 c1 c2 c3 c4 c5 c6 c7 c8 c9 hck
      generalize os.length = no at *
      generalize hs.length = nh at *
      generalize rs.length = nr at *
      generalize qs.length = nqs at *
      generalize fs.length = nf at *
      generalize ps.length = np at *
      have HCK := Lib.hid hck
      clear hck
      go_upto_region 4 with fail
      generalize hW : World.alloc wr (Obj.cells _ 30) = w1
      have HB : Hid (Blk w1 wr.heap.size 30 _) := Lib.hid (by rw [← hW]; exact Blk.new _ _ _)
      have H1 : Hid (Upd [] wr w1) := Lib.hid (by rw [← hW]; exact (Upd.refl [] wr).alloc _)
      clear hW c0 c1 c2 c3 c4 c5 c6 c7 c8 c9
      generalize wr.heap.size = q at *
      have d0 : w1.cell? ⟨q, 0, none⟩ = some (.slice oa no oc) := vw_cells HB.out (Upd.refl _ _) rfl
      have d1 : w1.cell? ⟨q, 1, none⟩ = some (.slice ha nh hc') := vw_cells HB.out (Upd.refl _ _) rfl
      have d2 : w1.cell? ⟨q, 2, none⟩ = some (.slice ra nr rc) := vw_cells HB.out (Upd.refl _ _) rfl
      have d3 : w1.cell? ⟨q, 3, none⟩ = some (.slice qa nqs qc) := vw_cells HB.out (Upd.refl _ _) rfl
      have d4 : w1.cell? ⟨q, 4, none⟩ = some (.slice fa nf fc) := vw_cells HB.out (Upd.refl _ _) rfl
      have d5 : w1.cell? ⟨q, 5, none⟩ = some (.slice pa np pc) := vw_cells HB.out (Upd.refl _ _) rfl
      have d6 : w1.cell? ⟨q, 6, none⟩ = some (.int .i64 clock) := vw_cells HB.out (Upd.refl _ _) rfl
      have d7 : w1.cell? ⟨q, 7, none⟩ = some (.int .i64 serial) := vw_cells HB.out (Upd.refl _ _) rfl
      have d8 : w1.cell? ⟨q, 8, none⟩ = some (.int .i64 used) := vw_cells HB.out (Upd.refl _ _) rfl
      have d9 : w1.cell? ⟨q, 9, none⟩ = some (.int .i64 runs) := vw_cells HB.out (Upd.refl _ _) rfl
      go_wp2_with fail
      refine (HCK.out _ H1.out).mono ?_
      rintro e w2 ⟨rfl, hb2⟩
      have H2 : Hid (Upd [] wr w2) := Lib.hid (H1.out.step (Upd.of_below hb2 : Upd [] _ _) (by simp))
      clear hb2 d0 d1 d2 d3 d4 d5 d6 d7 d8 d9
      by_cases hk : k = 0
      · have hk2 : (k == 0) = true := by simpa using hk
        have hk3 : (k != 0) = false := by simpa using hk
        have HL := Lib.hid (HPN.out hk)
        clear hk
        go_wp2_with fail
        go_roundg (n - (j + 1))
        case measure => omega
        case rel => exact ⟨j + 1, rfl, by omega, by go_num, Lib.hid (HU.out.trans H2.out), HL⟩
      · have hk2 : (k == 0) = false := by simpa using hk
        have hk3 : (k != 0) = true := by simpa using hk
        have HL := Lib.hid (HNJ.out hk)
        clear hk
        go_wp2_with fail
        go_ret
        exact ⟨by rw [HL.out]; rfl, (HU.out.trans H2.out).below⟩
    · obtain rfl : j = n := by omega
      have HT := Lib.hid (HALL.out HP.out)
      go_wp2_with fail
      go_ret
      exact ⟨by rw [HT.out]; rfl, HU.out.below⟩
end Go.Proofs.Ytnhgmmjlhhgdoaa
