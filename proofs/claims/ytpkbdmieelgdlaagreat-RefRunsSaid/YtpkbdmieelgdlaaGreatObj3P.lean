/- The contracts of an object's head and of its fields. -/
import Derived.Test.YtpkbdmieelgdlaaGreatObj2P
namespace Go.Proofs.YtpkbdmieelgdlaaGreat
open Go Go.RowKit

section
variable {O : Nat → Prop} {l : List Int} {F : Int → Ob}
theorem head_no (h : Nat) (np : List Pst) (a : Int) (w : World) (H : HeapO w h np l F O) (ha : a ∉ l) : Calls Tryz.prog 63 #[.pointer (some ⟨h, 0, none⟩), .int .i64 a] w fun e w' =>
    e = .returned (.tuple #[.agg #[.int .i64 0, .int .i64 0, .int .i64 0, .bool false], .int .i64 2]) ∧ Upd [] w w' := by
  obtain ⟨t, s, L, S, H, hnp, rfl⟩ := H
  have hno := H.objs.none ha
  have hz : Hid (Upd [] w (w.alloc (.cells #[.int .i64 0, .int .i64 0, .int .i64 0, .bool false] 37))) := Lib.hid ((Upd.refl [] w).alloc _)
  obtain ⟨c0, c1, c2, c3⟩ := (H.upd0 hz.out).cells
  have hf := find_calls s L S a
  unfold FindVal at hf
  generalize S.find a = z at *
  obtain ⟨z1, z2, z3⟩ := z
  simp only at hf hno
  have HF := Lib.hid hf
  have HS := Lib.hid H.space
  clear H hf ha
  cases z3
  · clear hno
    go_enter Tryz.func63, Tryz.ntmps63
    go_wp2_with fail
    refine (HF.out _ (HS.out.upd0 hz.out)).mono ?_
    rintro e w1 ⟨rfl, hu⟩
    have hb := (Blk.new w 37 #[.int .i64 0, .int .i64 0, .int .i64 0, .bool false]).upd hu (by simp)
    obtain ⟨x0, x1, x2, x3⟩ := head_cells hb
    obtain ⟨x4, x5, x6, x7⟩ := head_frozen hb
    have HU := Lib.hid (hz.out.trans hu)
    clear hu hb
    go_wp2_with fail
    (try simp only [Exit.inBlock, Exit.then])
    refine bodyPost_ret (v := .tuple #[.agg #[.int .i64 0, .int .i64 0, .int .i64 0, .bool false], .int .i64 2]) ?_ rfl ⟨rfl, ?_⟩
    · rw [results_cell_tmp rfl]; go_simp
    · exact (((HU.out.setCell (.inr (Nat.le_refl _)) _).setCell (.inr (Nat.le_refl _)) _).setCell (.inr (Nat.le_refl _)) _).setCell (.inr (Nat.le_refl _)) _
  · have hne : z1 ≠ a := by rcases hno with e | e; cases e; exact e
    clear hno
    go_enter Tryz.func63, Tryz.ntmps63
    go_wp2_with fail
    refine (HF.out _ (HS.out.upd0 hz.out)).mono ?_
    rintro e w1 ⟨rfl, hu⟩
    have hb := (Blk.new w 37 #[.int .i64 0, .int .i64 0, .int .i64 0, .bool false]).upd hu (by simp)
    obtain ⟨x0, x1, x2, x3⟩ := head_cells hb
    obtain ⟨x4, x5, x6, x7⟩ := head_frozen hb
    have HU := Lib.hid (hz.out.trans hu)
    clear hu hb
    go_wp2_with fail
    (try simp only [Exit.inBlock, Exit.then])
    refine bodyPost_ret (v := .tuple #[.agg #[.int .i64 0, .int .i64 0, .int .i64 0, .bool false], .int .i64 2]) ?_ rfl ⟨rfl, ?_⟩
    · rw [results_cell_tmp rfl]; go_simp
    · exact (((HU.out.setCell (.inr (Nat.le_refl _)) _).setCell (.inr (Nat.le_refl _)) _).setCell (.inr (Nat.le_refl _)) _).setCell (.inr (Nat.le_refl _)) _

theorem head_yes (h : Nat) (np : List Pst) (a k c n : Int) (f : Bool) (w : World) (H : HeapO w h np l F O) (ha : a ∈ l) (ho : (F a).head = .agg #[.int .i64 k, .int .i64 c, .int .i64 n, .bool f]) : Calls Tryz.prog 63 #[.pointer (some ⟨h, 0, none⟩), .int .i64 a] w fun e w' =>
    e = .returned (.tuple #[.agg #[.int .i64 k, .int .i64 c, .int .i64 n, .bool f], .int .i64 0]) ∧ Upd [] w w' := by
  obtain ⟨t, s, L, S, H, hnp, rfl⟩ := H
  obtain ⟨m, hm, hst⟩ := H.objs.ob a ha
  have fb := find_block H.space.wf hm
  have hr := hst.room
  have hmay : mayB k c n f = true ∧ S.W.getD a.toNat 0 = putZ k c n f := by
    have h1 := hst.may
    have h2 := hst.word
    unfold Ob.may at h1
    unfold Ob.word at h2
    unfold Ob.head at ho
    simp only [Value.agg.injEq, Array.mk.injEq, List.cons.injEq, Value.int.injEq, Value.bool.injEq, true_and, and_true] at ho
    obtain ⟨e1, e2, e3, e4⟩ := ho
    rw [e1, e2, e3, e4] at h1 h2
    exact ⟨h1, h2⟩
  obtain ⟨hmay, hw⟩ := hmay
  have hz : Hid (Upd [] w (w.alloc (.cells #[.int .i64 0, .int .i64 0, .int .i64 0, .bool false] 37))) := Lib.hid ((Upd.refl [] w).alloc _)
  obtain ⟨c0, c1, c2, c3⟩ := (H.upd0 hz.out).cells
  have hf := fun W => find_calls s L S a W
  rw [hm] at hf
  unfold FindVal at hf
  have hl : ∀ W, Upd [] w W → Calls Tryz.prog 94 #[.pointer (some ⟨L.pa, 0, none⟩), .int .i64 a] W fun e w' => e = .returned (.tuple #[.int .i64 (putZ k c n f), .int .i64 0]) ∧ W = w' := fun W hu => by
    have := load_yes L.pa L.ga S.W a W (H.space.upd0 hu).arena (by omega) (by omega)
    rw [hw] at this
    exact this
  have HF := Lib.hid hf
  have HL := Lib.hid hl
  have HS := Lib.hid H
  have HG := Lib.hid (fun W => head_get k c n f W hmay)
  generalize putZ k c n f = x at *
  clear H hf hl ha hm hst fb hr ho hw hnp hmay
  go_enter Tryz.func63, Tryz.ntmps63
  go_wp2_with fail
  refine (HF.out _ (HS.out.upd0 hz.out).space).mono ?_
  rintro e w1 ⟨rfl, hu⟩
  have hb := (Blk.new w 37 #[.int .i64 0, .int .i64 0, .int .i64 0, .bool false]).upd hu (by simp)
  have HU := Lib.hid (hz.out.trans hu)
  clear hu c0 c1 c2 c3
  obtain ⟨c0, c1, c2, c3⟩ := (HS.out.upd0 HU.out).cells
  go_wp2_with fail
  refine (HL.out _ HU.out).mono ?_
  rintro e w2 ⟨rfl, rfl⟩
  go_wp2_with fail
  refine (HG.out _).mono ?_
  rintro e w2 ⟨rfl, hu⟩
  have hb2 := (hb.upd hu (by simp)).alloc (.cells #[.int .i64 k, .int .i64 c, .int .i64 n, .bool f] 37)
  obtain ⟨x0, x1, x2, x3⟩ := head_cells hb2
  obtain ⟨x4, x5, x6, x7⟩ := head_frozen hb2
  have HU2 := Lib.hid (HU.out.trans hu)
  clear hu c0 c1 c2 c3 hb hb2
  go_wp2_with fail
  (try simp only [Exit.inBlock, Exit.then])
  refine bodyPost_ret (v := .tuple #[.agg #[.int .i64 k, .int .i64 c, .int .i64 n, .bool f], .int .i64 0]) ?_ rfl ⟨rfl, ?_⟩
  · rw [results_cell_tmp rfl]; go_simp
  · exact ((((HU2.out.alloc _).setCell (.inr (Nat.le_refl _)) _).setCell (.inr (Nat.le_refl _)) _).setCell (.inr (Nat.le_refl _)) _).setCell (.inr (Nat.le_refl _)) _
end
end Go.Proofs.YtpkbdmieelgdlaaGreat
