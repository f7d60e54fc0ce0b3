/- Layer 23's laws: Sound, the document's example, what is gone through. -/
import Derived.Test.YtnhgmmjlhhgdoaaPr8
namespace Go.Proofs.Ytnhgmmjlhhgdoaa
open Go Go.RowKit

theorem check_gives (v : Vw) (w : World) (k : Int) (S : Sees w v) (L : Light v) (hrs : v.rs.length ≤ 4611686018427387903) (hk : CheckIs v k) : Calls Try.prog 16 #[v.val] w fun e w' => e = .returned (.int .i64 k) ∧ Below w.heap.size w w' :=
  (check_walk v w S L hrs).mono fun _ _ ⟨_, h1, h2, h3⟩ => ⟨by rw [h1, CheckIs.unique h2 hk], h3⟩
/-- A view of nothing but roots that are none. -/
def vw0 (ra : Option Addr) (n : Nat) : Vw := ⟨none, 0, [], none, 0, [], ra, n, List.replicate n 0, none, 0, [], none, 0, [], none, 0, [], 0, 0, 0, 0⟩
theorem vw0_light (ra : Option Addr) (n : Nat) : Light (vw0 ra n) := ⟨by simp [vw0], by simp [vw0], by simp [vw0], by simp [vw0], by simp [vw0], by simp [vw0], by simp [vw0], fun _ => ⟨rfl, rfl⟩, fun _ => ⟨rfl, rfl⟩⟩
theorem vw0_16 (ra : Option Addr) : CheckIs (vw0 ra 16) 0 := check_none (seven (fun i hi => by simp [vw0] at hi) ⟨fun i hi => by simp [vw0] at hi, rfl⟩
  ⟨by simp [vw0], fun i hi => by
    simp only [vw0, List.length_replicate] at hi ⊢
    left
    rw [List.getD_eq_getElem?_getD, List.getElem?_replicate, if_pos hi]
    rfl, fun i hi => by simp [vw0] at hi⟩ (fun i hi => by simp [vw0] at hi) (fun i hi => by simp [vw0] at hi) (fun i hi => by simp [vw0] at hi) ⟨by simp [vw0], fun i hi => by simp [vw0] at hi⟩)
theorem vw0_0 (ra : Option Addr) : CheckIs (vw0 ra 0) 3 := check_hit 2 (by omega) (fun m hm => by
  rcases (show m = 0 ∨ m = 1 by omega) with rfl | rfl
  · exact fun i hi => by simp [vw0] at hi
  · exact ⟨fun i hi => by simp [vw0] at hi, rfl⟩) (fun h => by have := h.1; simp [vw0] at this)
set_option maxRecDepth 100000 in
set_option maxHeartbeats 1600000 in
theorem sound0_walk (w : World) : Calls Try.prog 20 #[.slice none 0 0] w fun e w' => e = .returned (.bool true) ∧ w = w' := by
  go_enter Try.func20, Try.ntmps20
  go_wp2_with fail
  go_loopg [7] 0 (fun gk i wr => gk = 0 ∧ i = .int .i64 0 ∧ w = wr)
  case atStart => exact ⟨rfl, rfl, rfl⟩
  case round =>
    obtain ⟨rfl, rfl, rfl⟩ := hrel
    go_wp2_with fail
    go_ret
    exact ⟨rfl, rfl⟩
set_option maxRecDepth 100000 in
set_option maxHeartbeats 1600000 in
theorem awake23_walk (w : World) : Calls Try.prog 18 #[] w fun e w' => e = .returned (.bool true) ∧ Below w.heap.size w w' := by
  have hmk : ∀ W : World, (Instr.makeSlice 22 (.int .i64 16) (.int .i64 16)).run Try.prog W = .ok (.slice (some ⟨W.heap.size, 0, none⟩) 16 16) (W.alloc (.cells (Array.replicate 16 (.int .i64 0)) 3)) := fun W => run_make_all 22 3 (.int .i64 0) 8 Try.underlying22 int_info rfl 16 16 rfl (by decide) (by decide) W
  have HNI : Hid (∀ W A, IsInts W A []) := Lib.hid (fun W A => .inl rfl)
  have HS0 : Hid (∀ W, Sees W (vw0 none 0)) := Lib.hid (fun W => ⟨.inl rfl, .inl rfl, .inl rfl, .inl rfl, .inl rfl, .inl rfl⟩)
  have HS16 : Hid (∀ W g, W.heap[g]? = some (.cells (Array.replicate 16 (.int .i64 0)) 3 (0, 0)) → Sees W (vw0 (some ⟨g, 0, none⟩) 16)) := Lib.hid (fun W g hg => ⟨.inl rfl, .inl rfl, .inr ⟨g, 0, rfl, (Array.getElem?_eq_some_iff.1 hg).1, fun i hi => by
    have hb : Blk W g 3 (Array.replicate 16 (.int .i64 0)) := hg
    simp only [vw0, List.length_replicate] at hi ⊢
    rw [Nat.zero_add, hb.cell i, Array.getElem?_replicate, if_pos hi, List.getD_eq_getElem?_getD, List.getElem?_replicate, if_pos hi]
    rfl⟩, .inl rfl, .inl rfl, .inl rfl⟩)
  have HC16 : Hid (∀ W g, W.heap[g]? = some (.cells (Array.replicate 16 (.int .i64 0)) 3 (0, 0)) → Calls Try.prog 16 #[.agg #[.slice none 0 0, .slice none 0 0, .slice (some ⟨g, 0, none⟩) 16 16, .slice none 0 0, .slice none 0 0, .slice none 0 0, .int .i64 0, .int .i64 0, .int .i64 0, .int .i64 0]] W fun e w' => e = .returned (.int .i64 0) ∧ Below W.heap.size W w') := Lib.hid (fun W g hg => check_gives (vw0 (some ⟨g, 0, none⟩) 16) W 0 (HS16.out W g hg) (vw0_light _ _) (by simp [vw0]) (vw0_16 _))
  have HC0 : Hid (∀ W, Calls Try.prog 16 #[.agg #[.slice none 0 0, .slice none 0 0, .slice none 0 0, .slice none 0 0, .slice none 0 0, .slice none 0 0, .int .i64 0, .int .i64 0, .int .i64 0, .int .i64 0]] W fun e w' => e = .returned (.int .i64 3) ∧ Below W.heap.size W w') := Lib.hid (fun W => check_gives (vw0 none 0) W 3 (HS0.out W) (vw0_light _ _) (by simp [vw0]) (vw0_0 _))
  go_enter Try.func18, Try.ntmps18
  go_wp2_with fail
  refine (HC16.out _ _ (Blk.new _ _ _)).mono ?_
  rintro e w1 ⟨rfl, hb⟩
  have HU : Hid (Upd [] w w1) := Lib.hid (((Upd.refl [] w).alloc _).step (Upd.of_below hb : Upd [] _ _) (by simp))
  clear hb hmk
  go_wp2_with fail
  refine (HC0.out _).mono ?_
  rintro e w2 ⟨rfl, hb⟩
  have HU2 : Hid (Upd [] w w2) := Lib.hid (HU.out.step (Upd.of_below hb : Upd [] _ _) (by simp))
  clear hb
  go_wp2_with fail
  refine (sound0_walk _).mono ?_
  rintro e w' ⟨rfl, rfl⟩
  go_wp2_with fail
  go_ret
  exact ⟨rfl, HU2.out.below⟩
end Go.Proofs.Ytnhgmmjlhhgdoaa
