/- The document's SameObjs, over two lists of the same objects. -/
import Derived.Test.YtpkbdmieelgdlaaGreatObjs1
import Derived.Test.YtpkbdmieelgdlaaGreatSame0
namespace Go.Proofs.YtpkbdmieelgdlaaGreat
open Go Go.RowKit

section
variable {w w' : World} {B : Nat} {v : Value} {os : List (Int × Ob)} {ss : List Value}
/-- What the slice is, and one object's cells. -/
theorem ObjsV.slice (h : ObjsV w B v os ss) : ∃ A c, v = .slice A os.length c := by
  rcases h.row.2 with ⟨rfl, h2⟩ | ⟨g, cap, cur, rfl, _⟩
  · exact ⟨none, 0, by rw [h2]⟩
  · exact ⟨_, cap, rfl⟩
theorem ObjsV.at {A : Option Addr} {n c : Nat} (h : ObjsV w B (.slice A n c) os ss) {i : Nat} (hi : i < os.length) : ∃ g A2 c2, A = some ⟨g, 0, none⟩ ∧ n = os.length ∧
    (w.cell? ⟨g, i * 6, none⟩ = some (.int .i64 (os.getD i ob0).1) ∧ w.cell? ⟨g, i * 6 + 1, none⟩ = some (.int .i64 (os.getD i ob0).2.k) ∧ w.cell? ⟨g, i * 6 + 2, none⟩ = some (.int .i64 (os.getD i ob0).2.c) ∧
      w.cell? ⟨g, i * 6 + 3, none⟩ = some (.int .i64 ((os.getD i ob0).2.ws.length : Nat)) ∧ w.cell? ⟨g, i * 6 + 4, none⟩ = some (.bool (os.getD i ob0).2.f) ∧ w.cell? ⟨g, i * 6 + 5, none⟩ = some (.slice A2 (os.getD i ob0).2.ws.length c2)) ∧
    IsInts w A2 (os.getD i ob0).2.ws := by
  obtain ⟨A2, c2, hs, hI, _⟩ := (h.own i hi).form
  have hr := h.row
  rcases h.row.2 with ⟨e, h2⟩ | ⟨g, cap, cur, e, _, hg, hn, _, hcs, _⟩
  · omega
  · simp only [Value.slice.injEq] at e
    obtain ⟨rfl, rfl, rfl⟩ := e
    have hc : ∀ j, j < 6 → w.cell? ⟨g, i * 6 + j, none⟩ = (objCells (os.getD i ob0) (ss.getD i snil))[j]? := fun j hj => by
      rw [World.ownsRow.cellAt hr _ (by omega), objsC_at _ _ _ _ h.len hi hj]
    rw [hs] at hc
    exact ⟨g, A2, c2, rfl, rfl, ⟨hc 0 (by omega), hc 1 (by omega), hc 2 (by omega), hc 3 (by omega), hc 4 (by omega), hc 5 (by omega)⟩, hI⟩
set_option maxRecDepth 100000 in
set_option maxHeartbeats 1600000 in
theorem same_objs {B1 B2 : Nat} {v1 v2 : Value} {s1 s2 : List Value} (w : World) (H1 : ObjsV w B1 v1 os s1) (H2 : ObjsV w B2 v2 os s2) (hl : os.length ≤ 16384) (hw : ∀ i, (os.getD i ob0).2.ws.length ≤ 1023) :
    Calls Tryz.prog 19 #[v1, v2] w fun e w' => e = .returned (.bool true) ∧ ∃ q, w' = w.drewN q := by
  obtain ⟨A1, c1, rfl⟩ := H1.slice
  obtain ⟨A2, c2, rfl⟩ := H2.slice
  obtain ⟨N, hN⟩ : ∃ N, os.length = N := ⟨_, rfl⟩
  rw [hN] at hl H1 H2 ⊢
  have HN := Lib.hid hN
  have HA := Lib.hid H1
  have HB := Lib.hid H2
  have HWL := Lib.hid hw
  clear hN H1 H2 hw
  go_enter Tryz.func19, Tryz.ntmps19
  go_wp2_with fail
  go_loopg [5] N (fun gk i wr => ∃ j q : Nat, gk = N - j ∧ j ≤ N ∧ i = .int .i64 j ∧ wr = w.drewN q)
  case atStart => exact ⟨0, 0, rfl, by omega, rfl, rfl⟩
  case round =>
    obtain ⟨j, q, rfl, hj, rfl, rfl⟩ := hrel
    by_cases hlt : j < N
    · obtain ⟨g1, A3, c3, rfl, -, hc1, hi1⟩ := HA.out.at (i := j) (by rw [HN.out]; exact hlt)
      obtain ⟨g2, A4, c4, rfl, -, hc2, hi2⟩ := HB.out.at (i := j) (by rw [HN.out]; exact hlt)
      have hwl := HWL.out j
      obtain ⟨d0, d1, d2, d3, d4, d5⟩ := hc1
      obtain ⟨e0, e1, e2, e3, e4, e5⟩ := hc2
      obtain ⟨x, hx⟩ : ∃ x, os.getD j ob0 = x := ⟨_, rfl⟩
      rw [hx] at d0 d1 d2 d3 d4 d5 e0 e1 e2 e3 e4 e5 hi1 hi2 hwl
      obtain ⟨a, k, c, f, ws⟩ := x
      simp only at d0 d1 d2 d3 d4 d5 e0 e1 e2 e3 e4 e5 hi1 hi2 hwl
      obtain ⟨n, hn⟩ : ∃ n, ws.length = n := ⟨_, rfl⟩
      have HS : Hid (∀ k, Calls Tryz.prog 16 #[.slice A3 n c3, .slice A4 n c4] (w.drewN (q + k)) fun e w' => e = .returned (.bool true) ∧ ∃ m, w' = w.drewN (q + m)) := Lib.hid fun k => by
        have h := same_calls A3 A4 n n c3 c4 ws ws (w.drewN (q + k)) hn hn hi1 hi2 (by omega) (by omega)
        rw [show decide (ws = ws) = true from by simp] at h
        exact h.mono fun e w' ⟨he, m, hm⟩ => ⟨he, k + m, by rw [hm, World.drewN_drewN, Nat.add_assoc]⟩
      rw [hn] at d3 d5 e3 e5
      clear hn hx hi1 hi2 hwl
      go_upto_region 6 with fail
      go_quiet ((go_at_call 16; exact HS.out _))
      go_wp2_with fail
      go_roundg (N - (j + 1))
      case measure => omega
      case rel => exact ⟨j + 1, q + nq, rfl, by omega, by go_num, by first | rfl | rw [World.drewN_drewN]⟩
    · obtain rfl : j = N := by omega
      go_wp2_with fail
      go_ret
      exact ⟨rfl, q, rfl⟩
end
end Go.Proofs.YtpkbdmieelgdlaaGreat
