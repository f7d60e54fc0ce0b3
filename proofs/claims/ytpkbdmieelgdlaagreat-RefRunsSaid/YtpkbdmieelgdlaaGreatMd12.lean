/- What Heap(n) and Model(n) of layer 12 give: one and the same heap of references. -/
import Derived.Test.YtpkbdmieelgdlaaGreatQue4P
import Derived.Test.YtpkbdmieelgdlaaGreatDh4
import Derived.Test.YtpkbdmieelgdlaaGreatDq5
namespace Go.Proofs.YtpkbdmieelgdlaaGreat
open Go Go.RowKit

/-- n references of 40 pages: the pages, the places, the objects. -/
def mkR : Nat → List Pst × List Int × (Int → Ob)
  | 0 => ((newSp 40).pg, [], F00)
  | k + 1 => ((allocP (mkR k).1 6).1, (mkR k).2.1 ++ [(allocP (mkR k).1 6).2], fset (mkR k).2.2 (allocP (mkR k).1 6).2 ⟨4, 1 + ((k % 3 : Nat) : Int), false, List.replicate 5 0⟩)
theorem mkR_len : ∀ k, (mkR k).2.1.length = k
  | 0 => rfl
  | k + 1 => by simp only [mkR, List.length_append, List.length_cons, List.length_nil, mkR_len k]
/-- A reference is made, where there is room. -/
theorem dmake_room {w : World} {np : List Pst} {l : List Int} {F : Int → Ob} {O : Nat → Prop} (h : Nat) (k c : Int) (n : Nat) (H : HeapD w h np l F O) (hm : mayB k c n false = true) (hk : k ≠ 1) (hn : n ≤ 31) (hroom : l.length + 1 < np.length) :
    Calls Tryz.prog 8 #[.pointer (some ⟨h, 0, none⟩), .agg #[.int .i64 k, .int .i64 c, .int .i64 n, .bool false]] w fun e w' =>
      ∃ a pg O', allocP np ((n : Int) + 1) = (pg, a) ∧ e = .returned (.agg #[.int .i64 a, .int .i64 0]) ∧ a ∉ l ∧ pg.length = np.length ∧ HeapD w' h pg (l ++ [a]) (fset F a ⟨k, c, false, List.replicate n 0⟩) O' ∧ StepO O w O' w' := by
  have hz : (makeP np ((n : Int) + 1)).2.2 = 0 := by
    obtain ⟨m, S, Os, H, hnp, rfl⟩ := H
    obtain ⟨S1, a, hal, _⟩ := H.objs.make H.space.wf (o := ⟨k, c, false, List.replicate n 0⟩) (n := n) (by simpa [Ob.may] using hm) rfl hn (by rw [hnp]; exact hroom)
    rw [← hnp, makeP_any, hal]
  refine (dmake h np k c n w H hm hk hn).mono ?_
  rintro e w' ⟨a, r, pg, l', F', O', ⟨h1, h2⟩, rfl, hh, hs⟩
  have h1 : makeP np ((n : Int) + 1) = (pg, a, r) := by simpa using h1
  rw [h1] at hz
  have hz : r = 0 := hz
  subst hz
  rcases h2 with ⟨_, rfl, rfl, _, _, h5, h6⟩ | ⟨h0, _⟩
  · exact ⟨a, pg, O', by rw [makeP_alloc, h1], rfl, h5, h6, hh, hs⟩
  · omega
set_option maxRecDepth 100000 in
set_option maxHeartbeats 1600000 in
theorem heap12 (n : Nat) (w : World) (hn : n ≤ 20) : Calls Tryz.prog 23 #[.int .i64 n] w fun e w' =>
    ∃ h v O, e = .returned (.tuple #[.pointer (some ⟨h, 0, none⟩), v]) ∧ HeapO w' h (mkR n).1 (mkR n).2.1 (mkR n).2.2 O ∧ OwnA w' w.heap.size v (mkR n).2.1 O ∧ Env w w' O ∧ (mkR n).1.length = 40 := by
  go_enter Tryz.func23, Tryz.ntmps23
  go_wp2_with fail
  refine (heap_new 40 _ (by omega) (by omega)).mono ?_
  rintro e w1 ⟨h, O, rfl, hh, ho, hu⟩
  have HH := Lib.hid hh
  have HE : Hid (Env w w1 O) := Lib.hid ⟨ho, hu⟩
  clear hh ho hu
  go_wp2_with fail
  refine (whole_yes h (newSp 40).pg _ HH.out).mono ?_
  rintro e w2 ⟨rfl, hu⟩
  have HH2 : Hid (HeapO w2 h (mkR 0).1 (mkR 0).2.1 (mkR 0).2.2 O) := Lib.hid (HH.out.upd0 hu)
  have HE2 := Lib.hid (HE.out.upd0 hu)
  have HL0 : Hid ((mkR 0).1.length = 40) := Lib.hid (by simp [mkR, newSp])
  clear hu
  go_wp2_with fail
  refine (err_calls 0 _ (by omega)).mono ?_
  rintro e w' ⟨rfl, rfl⟩
  go_wp2_with fail
  go_loopg [6, 7] n (fun gk v i wr => ∃ (k : Nat) (O : Nat → Prop), gk = n - k ∧ k ≤ n ∧ i = .int .i64 k ∧ Hid (HeapO wr h (mkR k).1 (mkR k).2.1 (mkR k).2.2 O) ∧ Hid (OwnA wr w.heap.size v (mkR k).2.1 O) ∧ Hid (Env w wr O) ∧ Hid ((mkR k).1.length = 40))
  case atStart => exact ⟨0, O, rfl, by omega, rfl, HH2, Lib.hid (OwnA.nil _ _ _), HE2, HL0⟩
  case round =>
    clear HH HE HH2 HE2 HL0
    obtain ⟨k, O, rfl, hk, rfl, HH, HO, HE, HL⟩ := hrel
    by_cases hlt : k < n
    · obtain ⟨c, hc⟩ : ∃ c : Nat, (k : Int) % 3 = c := ⟨k % 3, by omega⟩
      have hc3 : c < 3 := by omega
      have HC := Lib.hid hc
      have HC2 : Hid (k % 3 = c) := Lib.hid (by omega)
      clear hc
      go_wp2_with fail
      simp only [HC.out]
      refine (heap_make h (mkR k).1 4 (1 + c) 5 wr HH.out (kref_may _ (by omega) (by omega)) (by omega) (by omega) (by rw [HL.out, mkR_len]; omega)).mono ?_
      rintro e w3 ⟨a, pg, O3, hal, rfl, ha1, ha2, ha3, hln, hh, hs⟩
      have hal : allocP (mkR k).1 6 = (pg, a) := hal
      have e1 : (mkR (k + 1)).1 = pg ∧ (mkR (k + 1)).2.1 = (mkR k).2.1 ++ [a] ∧ (mkR (k + 1)).2.2 = fset (mkR k).2.2 a ⟨4, 1 + (c : Int), false, List.replicate 5 0⟩ := by
        simp only [mkR, hal, HC2.out]
        exact ⟨trivial, trivial, trivial⟩
      have HH3 : Hid (HeapO w3 h (mkR (k + 1)).1 (mkR (k + 1)).2.1 (mkR (k + 1)).2.2 O3) := Lib.hid (by rw [e1.1, e1.2.1, e1.2.2]; exact hh)
      have HO3 := Lib.hid (HO.out.step hs)
      have HE3 := Lib.hid (HE.out.step hs)
      have HL3 : Hid ((mkR (k + 1)).1.length = 40) := Lib.hid (by rw [e1.1, hln, HL.out])
      have HEQ := Lib.hid e1.2.1
      clear hh hs ha3 hal e1 hln
      go_wp2_with fail
      refine (err_calls 0 _ (by omega)).mono ?_
      rintro e w' ⟨rfl, rfl⟩
      go_wp2_with (at_builtin; refine wpList_pushO rfl _ _ rfl w.heap.size _ (mkR k).2.1 O3 rfl (HO3.out.upd0 ((Upd.refl [] w3).alloc _)) w3.heap.size a rfl (Blk.new _ _ _) (by rw [mkR_len]; omega) (by have := HE3.out.upd.size; simp; omega) (fun k hk => by have := HH3.out.owned hk; simp; omega) ?_)
      intro v' w4 E h1 h2 h3 h4
      rw [← HEQ.out] at h1
      have hE : ∀ i ∈ E, w.heap.size ≤ i ∧ ¬ O3 i := fun i hi => ⟨(World.ownsRow.lt HO3.out.own i (h2 i hi)).1, HO3.out.far i (h2 i hi)⟩
      have HH4 : Hid (HeapO w4 h (mkR (k + 1)).1 (mkR (k + 1)).2.1 (mkR (k + 1)).2.2 O3) := Lib.hid ((HH3.out.alloc _).upd h3 fun i hi => (hE i hi).2)
      have HE4 : Hid (Env w w4 O3) := Lib.hid ((HE3.out.upd0 ((Upd.refl [] w3).alloc _)).upd' h3 fun i hi => (hE i hi).1)
      have HO4 := Lib.hid h1
      clear h1 h2 h3 h4 hE
      go_wp2_with fail
      go_roundg (n - (k + 1))
      case measure => omega
      case rel => exact ⟨k + 1, O3, rfl, by omega, by go_num, HH4, HO4, HE4, HL3⟩
    · obtain rfl : k = n := by omega
      go_wp2_with fail
      go_ret2
      exact ⟨h, _, O, rfl, HH.out, HO.out, HE.out, HL.out⟩
set_option maxRecDepth 100000 in
set_option maxHeartbeats 1600000 in
theorem model12 (n : Nat) (w : World) (hn : n ≤ 20) : Calls Tryz.prog 25 #[.int .i64 n] w fun e w' =>
    ∃ h O, e = .returned (.pointer (some ⟨h, 0, none⟩)) ∧ HeapD w' h (mkR n).1 (mkR n).2.1 (mkR n).2.2 O ∧ Env w w' O := by
  go_enter Tryz.func25, Tryz.ntmps25
  go_wp2_with fail
  refine (dheap_new 40 _ (by omega) (by omega)).mono ?_
  rintro e w1 ⟨h, O, rfl, hh, ho, hu⟩
  have HH : Hid (HeapD w1 h (mkR 0).1 (mkR 0).2.1 (mkR 0).2.2 O) := Lib.hid hh
  have HE : Hid (Env w w1 O) := Lib.hid ⟨ho, hu⟩
  have HL0 : Hid ((mkR 0).1.length = 40) := Lib.hid (by simp [mkR, newSp])
  clear hh ho hu
  go_wp2_with fail
  go_loopg [4] n (fun gk i wr => ∃ (k : Nat) (O : Nat → Prop), gk = n - k ∧ k ≤ n ∧ i = .int .i64 k ∧ Hid (HeapD wr h (mkR k).1 (mkR k).2.1 (mkR k).2.2 O) ∧ Hid (Env w wr O) ∧ Hid ((mkR k).1.length = 40))
  case atStart => exact ⟨0, O, rfl, by omega, rfl, HH, HE, HL0⟩
  case round =>
    clear HH HE HL0
    obtain ⟨k, O, rfl, hk, rfl, HH, HE, HL⟩ := hrel
    by_cases hlt : k < n
    · obtain ⟨c, hc⟩ : ∃ c : Nat, (k : Int) % 3 = c := ⟨k % 3, by omega⟩
      have hc3 : c < 3 := by omega
      have HC := Lib.hid hc
      have HC2 : Hid (k % 3 = c) := Lib.hid (by omega)
      clear hc
      go_wp2_with fail
      simp only [HC.out]
      refine (dmake_room h 4 (1 + c) 5 HH.out (kref_may _ (by omega) (by omega)) (by omega) (by omega) (by rw [HL.out, mkR_len]; omega)).mono ?_
      rintro e w3 ⟨a, pg, O3, hal, rfl, ha3, hln, hh, hs⟩
      have hal : allocP (mkR k).1 6 = (pg, a) := hal
      have e1 : (mkR (k + 1)).1 = pg ∧ (mkR (k + 1)).2.1 = (mkR k).2.1 ++ [a] ∧ (mkR (k + 1)).2.2 = fset (mkR k).2.2 a ⟨4, 1 + (c : Int), false, List.replicate 5 0⟩ := by
        simp only [mkR, hal, HC2.out]
        exact ⟨trivial, trivial, trivial⟩
      have HH3 : Hid (HeapD w3 h (mkR (k + 1)).1 (mkR (k + 1)).2.1 (mkR (k + 1)).2.2 O3) := Lib.hid (by rw [e1.1, e1.2.1, e1.2.2]; exact hh)
      have HE3 := Lib.hid (HE.out.step hs)
      have HL3 : Hid ((mkR (k + 1)).1.length = 40) := Lib.hid (by rw [e1.1, hln, HL.out])
      clear hh hs ha3 hal e1 hln
      go_wp2_with fail
      go_roundg (n - (k + 1))
      case measure => omega
      case rel => exact ⟨k + 1, O3, rfl, by omega, by go_num, HH3, HE3, HL3⟩
    · obtain rfl : k = n := by omega
      go_wp2_with fail
      go_ret
      exact ⟨h, O, rfl, HH.out, HE.out⟩
end Go.Proofs.YtpkbdmieelgdlaaGreat
