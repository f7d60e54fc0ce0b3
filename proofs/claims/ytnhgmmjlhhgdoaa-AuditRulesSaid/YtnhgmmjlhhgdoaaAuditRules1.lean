/- AuditRules: what the switch leaves. (Printed by XAuditRules.py.) -/
import Derived.Test.YtnhgmmjlhhgdoaaAuditRules0
namespace Go.Proofs.Ytnhgmmjlhhgdoaa
open Go Go.RowKit

theorem sw0 {w0 w : World} {g wb : Nat} (h : Blks w g (LS1 g)) (hw : Blk w wb 3 (ints wants)) (hwb : g + 15 ≤ wb) (hu : Upd [] w0 w) (hg : w0.heap.size ≤ g)  : AtEnd w0 g wb 0 (w.setCell ⟨g + 8, 0, none⟩ (.int .i64 (63))) := by
  have h1 := Blks.set h (j := 8) rfl 0 (.int .i64 (63))
  have w1 := hw.far (p := ⟨g + 8, 0, none⟩) (by simp; omega) (.int .i64 (63))
  have u1 := hu.setCell (p := ⟨g + 8, 0, none⟩) (.inr (by simp; omega)) (.int .i64 (63))
  refine ⟨VG g [⟨63, 1, 1, 1, true, some ⟨g + 2, 0, none⟩, 1, [5]⟩, ⟨66, 3, 0, 1, true, some ⟨g + 3, 0, none⟩, 1, [-7]⟩, ⟨128, 2, 0, 3, false, some ⟨g + 4, 0, none⟩, 3, [64, 0, 128]⟩, ⟨192, 4, 2, 5, false, some ⟨g + 5, 0, none⟩, 5, [0, -1, 200, 3, 1]⟩, ⟨200, 4, 1, 5, false, some ⟨g + 6, 0, none⟩, 5, [0, -1, 0, 9, 4]⟩, ⟨208, 4, 3, 5, false, some ⟨g + 7, 0, none⟩, 5, [66, 1, 0, 0, 2]⟩] [(512, 128)] ([0, 0, 64, 0, 0, 0, 0, 0, 0, 0, 0, 0, 0, 0, 0, 0].take 16) [(some ⟨g + 10, 0, none⟩, 2, [192, 200]), (none, 0, [])] (g + 12) [64] (g + 13) [66] (32) (1), good_gen h1 _ _ [0, 0, 64, 0, 0, 0, 0, 0, 0, 0, 0, 0, 0, 0, 0, 0] 16 _ _ _ _ _ _ _ _ rfl ?_ rfl rfl rfl ?_ (h1 12 _ _ rfl) (h1 13 _ _ rfl) (by kernel_rfl) (by kernel_rfl), h1 14 _ _ rfl, w1, u1⟩
  · intro o ho
    simp only [List.mem_cons, List.not_mem_nil, or_false] at ho
    rcases ho with rfl | rfl | rfl | rfl | rfl | rfl
    · exact ints_of_blk (h1 2 _ _ rfl)
    · exact ints_of_blk (h1 3 _ _ rfl)
    · exact ints_of_blk (h1 4 _ _ rfl)
    · exact ints_of_blk (h1 5 _ _ rfl)
    · exact ints_of_blk (h1 6 _ _ rfl)
    · exact ints_of_blk (h1 7 _ _ rfl)
  · intro l hl
    simp only [List.mem_cons, List.not_mem_nil, or_false] at hl
    rcases hl with rfl | rfl
    · exact ⟨ints_of_blk (h1 10 _ _ rfl), fun h => by cases h⟩
    · exact ⟨.inl rfl, fun _ => ⟨rfl, rfl⟩⟩
theorem sw1 {w0 w : World} {g wb : Nat} (h : Blks w g (LS1 g)) (hw : Blk w wb 3 (ints wants)) (hwb : g + 15 ≤ wb) (hu : Upd [] w0 w) (hg : w0.heap.size ≤ g)  : AtEnd w0 g wb 1 (w.setCell ⟨g + 8, 6, none⟩ (.int .i64 (64))) := by
  have h1 := Blks.set h (j := 8) rfl 6 (.int .i64 (64))
  have w1 := hw.far (p := ⟨g + 8, 6, none⟩) (by simp; omega) (.int .i64 (64))
  have u1 := hu.setCell (p := ⟨g + 8, 6, none⟩) (.inr (by simp; omega)) (.int .i64 (64))
  refine ⟨VG g [⟨64, 1, 1, 1, true, some ⟨g + 2, 0, none⟩, 1, [5]⟩, ⟨64, 3, 0, 1, true, some ⟨g + 3, 0, none⟩, 1, [-7]⟩, ⟨128, 2, 0, 3, false, some ⟨g + 4, 0, none⟩, 3, [64, 0, 128]⟩, ⟨192, 4, 2, 5, false, some ⟨g + 5, 0, none⟩, 5, [0, -1, 200, 3, 1]⟩, ⟨200, 4, 1, 5, false, some ⟨g + 6, 0, none⟩, 5, [0, -1, 0, 9, 4]⟩, ⟨208, 4, 3, 5, false, some ⟨g + 7, 0, none⟩, 5, [66, 1, 0, 0, 2]⟩] [(512, 128)] ([0, 0, 64, 0, 0, 0, 0, 0, 0, 0, 0, 0, 0, 0, 0, 0].take 16) [(some ⟨g + 10, 0, none⟩, 2, [192, 200]), (none, 0, [])] (g + 12) [64] (g + 13) [66] (32) (1), good_gen h1 _ _ [0, 0, 64, 0, 0, 0, 0, 0, 0, 0, 0, 0, 0, 0, 0, 0] 16 _ _ _ _ _ _ _ _ rfl ?_ rfl rfl rfl ?_ (h1 12 _ _ rfl) (h1 13 _ _ rfl) (by kernel_rfl) (by kernel_rfl), h1 14 _ _ rfl, w1, u1⟩
  · intro o ho
    simp only [List.mem_cons, List.not_mem_nil, or_false] at ho
    rcases ho with rfl | rfl | rfl | rfl | rfl | rfl
    · exact ints_of_blk (h1 2 _ _ rfl)
    · exact ints_of_blk (h1 3 _ _ rfl)
    · exact ints_of_blk (h1 4 _ _ rfl)
    · exact ints_of_blk (h1 5 _ _ rfl)
    · exact ints_of_blk (h1 6 _ _ rfl)
    · exact ints_of_blk (h1 7 _ _ rfl)
  · intro l hl
    simp only [List.mem_cons, List.not_mem_nil, or_false] at hl
    rcases hl with rfl | rfl
    · exact ⟨ints_of_blk (h1 10 _ _ rfl), fun h => by cases h⟩
    · exact ⟨.inl rfl, fun _ => ⟨rfl, rfl⟩⟩
theorem sw2 {w0 w : World} {g wb : Nat} (h : Blks w g (LS1 g)) (hw : Blk w wb 3 (ints wants)) (hwb : g + 15 ≤ wb) (hu : Upd [] w0 w) (hg : w0.heap.size ≤ g)  : AtEnd w0 g wb 2 (w.setCell ⟨g + 8, 13, none⟩ (.int .i64 (7))) := by
  have h1 := Blks.set h (j := 8) rfl 13 (.int .i64 (7))
  have w1 := hw.far (p := ⟨g + 8, 13, none⟩) (by simp; omega) (.int .i64 (7))
  have u1 := hu.setCell (p := ⟨g + 8, 13, none⟩) (.inr (by simp; omega)) (.int .i64 (7))
  refine ⟨VG g [⟨64, 1, 1, 1, true, some ⟨g + 2, 0, none⟩, 1, [5]⟩, ⟨66, 3, 0, 1, true, some ⟨g + 3, 0, none⟩, 1, [-7]⟩, ⟨128, 7, 0, 3, false, some ⟨g + 4, 0, none⟩, 3, [64, 0, 128]⟩, ⟨192, 4, 2, 5, false, some ⟨g + 5, 0, none⟩, 5, [0, -1, 200, 3, 1]⟩, ⟨200, 4, 1, 5, false, some ⟨g + 6, 0, none⟩, 5, [0, -1, 0, 9, 4]⟩, ⟨208, 4, 3, 5, false, some ⟨g + 7, 0, none⟩, 5, [66, 1, 0, 0, 2]⟩] [(512, 128)] ([0, 0, 64, 0, 0, 0, 0, 0, 0, 0, 0, 0, 0, 0, 0, 0].take 16) [(some ⟨g + 10, 0, none⟩, 2, [192, 200]), (none, 0, [])] (g + 12) [64] (g + 13) [66] (32) (1), good_gen h1 _ _ [0, 0, 64, 0, 0, 0, 0, 0, 0, 0, 0, 0, 0, 0, 0, 0] 16 _ _ _ _ _ _ _ _ rfl ?_ rfl rfl rfl ?_ (h1 12 _ _ rfl) (h1 13 _ _ rfl) (by kernel_rfl) (by kernel_rfl), h1 14 _ _ rfl, w1, u1⟩
  · intro o ho
    simp only [List.mem_cons, List.not_mem_nil, or_false] at ho
    rcases ho with rfl | rfl | rfl | rfl | rfl | rfl
    · exact ints_of_blk (h1 2 _ _ rfl)
    · exact ints_of_blk (h1 3 _ _ rfl)
    · exact ints_of_blk (h1 4 _ _ rfl)
    · exact ints_of_blk (h1 5 _ _ rfl)
    · exact ints_of_blk (h1 6 _ _ rfl)
    · exact ints_of_blk (h1 7 _ _ rfl)
  · intro l hl
    simp only [List.mem_cons, List.not_mem_nil, or_false] at hl
    rcases hl with rfl | rfl
    · exact ⟨ints_of_blk (h1 10 _ _ rfl), fun h => by cases h⟩
    · exact ⟨.inl rfl, fun _ => ⟨rfl, rfl⟩⟩
theorem sw3 {w0 w : World} {g wb : Nat} (h : Blks w g (LS1 g)) (hw : Blk w wb 3 (ints wants)) (hwb : g + 15 ≤ wb) (hu : Upd [] w0 w) (hg : w0.heap.size ≤ g)  (hz : g + 15 ≤ w.heap.size) (nb : Nat) (hnb : w.heap.size = nb) : AtEnd w0 g wb 3 ((w.alloc (.cells #[.int .i64 (0), .int .i64 (0)] 3)).setCell ⟨g + 8, 17, none⟩ (.slice (some ⟨nb, 0, none⟩) 2 2)) := by
  have h1 := h.upd ((Upd.refl [] _).alloc (.cells #[.int .i64 (0), .int .i64 (0)] 3))
  have w1 := hw.alloc (.cells #[.int .i64 (0), .int .i64 (0)] 3)
  have u1 := hu.alloc (.cells #[.int .i64 (0), .int .i64 (0)] 3)
  have n1 : Blk (World.alloc w (.cells #[.int .i64 (0), .int .i64 (0)] 3)) nb 3 (ints [0, 0]) := by
    rw [← hnb]; exact Blk.new _ _ _
  have h2 := Blks.set h1 (j := 8) rfl 17 (.slice (some ⟨nb, 0, none⟩) 2 2)
  have w2 := w1.far (p := ⟨g + 8, 17, none⟩) (by simp; omega) (.slice (some ⟨nb, 0, none⟩) 2 2)
  have u2 := u1.setCell (p := ⟨g + 8, 17, none⟩) (.inr (by simp; omega)) (.slice (some ⟨nb, 0, none⟩) 2 2)
  have n2 := n1.far (p := ⟨g + 8, 17, none⟩) (by simp; omega) (.slice (some ⟨nb, 0, none⟩) 2 2)
  refine ⟨VG g [⟨64, 1, 1, 1, true, some ⟨g + 2, 0, none⟩, 1, [5]⟩, ⟨66, 3, 0, 1, true, some ⟨g + 3, 0, none⟩, 1, [-7]⟩, ⟨128, 2, 0, 3, false, some ⟨nb, 0, none⟩, 2, [0, 0]⟩, ⟨192, 4, 2, 5, false, some ⟨g + 5, 0, none⟩, 5, [0, -1, 200, 3, 1]⟩, ⟨200, 4, 1, 5, false, some ⟨g + 6, 0, none⟩, 5, [0, -1, 0, 9, 4]⟩, ⟨208, 4, 3, 5, false, some ⟨g + 7, 0, none⟩, 5, [66, 1, 0, 0, 2]⟩] [(512, 128)] ([0, 0, 64, 0, 0, 0, 0, 0, 0, 0, 0, 0, 0, 0, 0, 0].take 16) [(some ⟨g + 10, 0, none⟩, 2, [192, 200]), (none, 0, [])] (g + 12) [64] (g + 13) [66] (32) (1), good_gen h2 _ _ [0, 0, 64, 0, 0, 0, 0, 0, 0, 0, 0, 0, 0, 0, 0, 0] 16 _ _ _ _ _ _ _ _ rfl ?_ rfl rfl rfl ?_ (h2 12 _ _ rfl) (h2 13 _ _ rfl) (by kernel_rfl) (by kernel_rfl), h2 14 _ _ rfl, w2, u2⟩
  · intro o ho
    simp only [List.mem_cons, List.not_mem_nil, or_false] at ho
    rcases ho with rfl | rfl | rfl | rfl | rfl | rfl
    · exact ints_of_blk (h2 2 _ _ rfl)
    · exact ints_of_blk (h2 3 _ _ rfl)
    · exact ints_of_blk n2
    · exact ints_of_blk (h2 5 _ _ rfl)
    · exact ints_of_blk (h2 6 _ _ rfl)
    · exact ints_of_blk (h2 7 _ _ rfl)
  · intro l hl
    simp only [List.mem_cons, List.not_mem_nil, or_false] at hl
    rcases hl with rfl | rfl
    · exact ⟨ints_of_blk (h2 10 _ _ rfl), fun h => by cases h⟩
    · exact ⟨.inl rfl, fun _ => ⟨rfl, rfl⟩⟩
theorem sw4 {w0 w : World} {g wb : Nat} (h : Blks w g (LS1 g)) (hw : Blk w wb 3 (ints wants)) (hwb : g + 15 ≤ wb) (hu : Upd [] w0 w) (hg : w0.heap.size ≤ g)  : AtEnd w0 g wb 4 (w.setCell ⟨g + 8, 21, none⟩ (.int .i64 (4))) := by
  have h1 := Blks.set h (j := 8) rfl 21 (.int .i64 (4))
  have w1 := hw.far (p := ⟨g + 8, 21, none⟩) (by simp; omega) (.int .i64 (4))
  have u1 := hu.setCell (p := ⟨g + 8, 21, none⟩) (.inr (by simp; omega)) (.int .i64 (4))
  refine ⟨VG g [⟨64, 1, 1, 1, true, some ⟨g + 2, 0, none⟩, 1, [5]⟩, ⟨66, 3, 0, 1, true, some ⟨g + 3, 0, none⟩, 1, [-7]⟩, ⟨128, 2, 0, 3, false, some ⟨g + 4, 0, none⟩, 3, [64, 0, 128]⟩, ⟨192, 4, 2, 4, false, some ⟨g + 5, 0, none⟩, 5, [0, -1, 200, 3, 1]⟩, ⟨200, 4, 1, 5, false, some ⟨g + 6, 0, none⟩, 5, [0, -1, 0, 9, 4]⟩, ⟨208, 4, 3, 5, false, some ⟨g + 7, 0, none⟩, 5, [66, 1, 0, 0, 2]⟩] [(512, 128)] ([0, 0, 64, 0, 0, 0, 0, 0, 0, 0, 0, 0, 0, 0, 0, 0].take 16) [(some ⟨g + 10, 0, none⟩, 2, [192, 200]), (none, 0, [])] (g + 12) [64] (g + 13) [66] (32) (1), good_gen h1 _ _ [0, 0, 64, 0, 0, 0, 0, 0, 0, 0, 0, 0, 0, 0, 0, 0] 16 _ _ _ _ _ _ _ _ rfl ?_ rfl rfl rfl ?_ (h1 12 _ _ rfl) (h1 13 _ _ rfl) (by kernel_rfl) (by kernel_rfl), h1 14 _ _ rfl, w1, u1⟩
  · intro o ho
    simp only [List.mem_cons, List.not_mem_nil, or_false] at ho
    rcases ho with rfl | rfl | rfl | rfl | rfl | rfl
    · exact ints_of_blk (h1 2 _ _ rfl)
    · exact ints_of_blk (h1 3 _ _ rfl)
    · exact ints_of_blk (h1 4 _ _ rfl)
    · exact ints_of_blk (h1 5 _ _ rfl)
    · exact ints_of_blk (h1 6 _ _ rfl)
    · exact ints_of_blk (h1 7 _ _ rfl)
  · intro l hl
    simp only [List.mem_cons, List.not_mem_nil, or_false] at hl
    rcases hl with rfl | rfl
    · exact ⟨ints_of_blk (h1 10 _ _ rfl), fun h => by cases h⟩
    · exact ⟨.inl rfl, fun _ => ⟨rfl, rfl⟩⟩
theorem sw5 {w0 w : World} {g wb : Nat} (h : Blks w g (LS1 g)) (hw : Blk w wb 3 (ints wants)) (hwb : g + 15 ≤ wb) (hu : Upd [] w0 w) (hg : w0.heap.size ≤ g)  (hz : g + 15 ≤ w.heap.size) (nb : Nat) (hnb : w.heap.size = nb) : AtEnd w0 g wb 5 (((w.setCell ⟨g + 8, 6, none⟩ (.int .i64 (65))).alloc (.cells #[.int .i64 (65)] 3)).setCell ⟨g + 14, 5, none⟩ (.slice (some ⟨nb, 0, none⟩) 1 1)) := by
  have h1 := Blks.set h (j := 8) rfl 6 (.int .i64 (65))
  have w1 := hw.far (p := ⟨g + 8, 6, none⟩) (by simp; omega) (.int .i64 (65))
  have u1 := hu.setCell (p := ⟨g + 8, 6, none⟩) (.inr (by simp; omega)) (.int .i64 (65))
  have h2 := h1.upd ((Upd.refl [] _).alloc (.cells #[.int .i64 (65)] 3))
  have w2 := w1.alloc (.cells #[.int .i64 (65)] 3)
  have u2 := u1.alloc (.cells #[.int .i64 (65)] 3)
  have n2 : Blk (World.alloc (w.setCell ⟨g + 8, 6, none⟩ (.int .i64 (65))) (.cells #[.int .i64 (65)] 3)) nb 3 (ints [65]) := by
    rw [← hnb]; have e : w.heap.size = (w.setCell ⟨g + 8, 6, none⟩ (.int .i64 (65))).heap.size := by simp
    rw [e]; exact Blk.new _ _ _
  have h3 := Blks.set h2 (j := 14) rfl 5 (.slice (some ⟨nb, 0, none⟩) 1 1)
  have w3 := w2.far (p := ⟨g + 14, 5, none⟩) (by simp; omega) (.slice (some ⟨nb, 0, none⟩) 1 1)
  have u3 := u2.setCell (p := ⟨g + 14, 5, none⟩) (.inr (by simp; omega)) (.slice (some ⟨nb, 0, none⟩) 1 1)
  have n3 := n2.far (p := ⟨g + 14, 5, none⟩) (by simp; omega) (.slice (some ⟨nb, 0, none⟩) 1 1)
  refine ⟨VG g [⟨64, 1, 1, 1, true, some ⟨g + 2, 0, none⟩, 1, [5]⟩, ⟨65, 3, 0, 1, true, some ⟨g + 3, 0, none⟩, 1, [-7]⟩, ⟨128, 2, 0, 3, false, some ⟨g + 4, 0, none⟩, 3, [64, 0, 128]⟩, ⟨192, 4, 2, 5, false, some ⟨g + 5, 0, none⟩, 5, [0, -1, 200, 3, 1]⟩, ⟨200, 4, 1, 5, false, some ⟨g + 6, 0, none⟩, 5, [0, -1, 0, 9, 4]⟩, ⟨208, 4, 3, 5, false, some ⟨g + 7, 0, none⟩, 5, [66, 1, 0, 0, 2]⟩] [(512, 128)] ([0, 0, 64, 0, 0, 0, 0, 0, 0, 0, 0, 0, 0, 0, 0, 0].take 16) [(some ⟨g + 10, 0, none⟩, 2, [192, 200]), (none, 0, [])] (g + 12) [64] (nb) [65] (32) (1), good_gen h3 _ _ [0, 0, 64, 0, 0, 0, 0, 0, 0, 0, 0, 0, 0, 0, 0, 0] 16 _ _ _ _ _ _ _ _ rfl ?_ rfl rfl rfl ?_ (h3 12 _ _ rfl) n3 (by kernel_rfl) (by kernel_rfl), h3 14 _ _ rfl, w3, u3⟩
  · intro o ho
    simp only [List.mem_cons, List.not_mem_nil, or_false] at ho
    rcases ho with rfl | rfl | rfl | rfl | rfl | rfl
    · exact ints_of_blk (h3 2 _ _ rfl)
    · exact ints_of_blk (h3 3 _ _ rfl)
    · exact ints_of_blk (h3 4 _ _ rfl)
    · exact ints_of_blk (h3 5 _ _ rfl)
    · exact ints_of_blk (h3 6 _ _ rfl)
    · exact ints_of_blk (h3 7 _ _ rfl)
  · intro l hl
    simp only [List.mem_cons, List.not_mem_nil, or_false] at hl
    rcases hl with rfl | rfl
    · exact ⟨ints_of_blk (h3 10 _ _ rfl), fun h => by cases h⟩
    · exact ⟨.inl rfl, fun _ => ⟨rfl, rfl⟩⟩
theorem sw6 {w0 w : World} {g wb : Nat} (h : Blks w g (LS1 g)) (hw : Blk w wb 3 (ints wants)) (hwb : g + 15 ≤ wb) (hu : Upd [] w0 w) (hg : w0.heap.size ≤ g)  : AtEnd w0 g wb 6 (w.setCell ⟨g + 14, 8, none⟩ (.int .i64 (33))) := by
  have h1 := Blks.set h (j := 14) rfl 8 (.int .i64 (33))
  have w1 := hw.far (p := ⟨g + 14, 8, none⟩) (by simp; omega) (.int .i64 (33))
  have u1 := hu.setCell (p := ⟨g + 14, 8, none⟩) (.inr (by simp; omega)) (.int .i64 (33))
  refine ⟨VG g [⟨64, 1, 1, 1, true, some ⟨g + 2, 0, none⟩, 1, [5]⟩, ⟨66, 3, 0, 1, true, some ⟨g + 3, 0, none⟩, 1, [-7]⟩, ⟨128, 2, 0, 3, false, some ⟨g + 4, 0, none⟩, 3, [64, 0, 128]⟩, ⟨192, 4, 2, 5, false, some ⟨g + 5, 0, none⟩, 5, [0, -1, 200, 3, 1]⟩, ⟨200, 4, 1, 5, false, some ⟨g + 6, 0, none⟩, 5, [0, -1, 0, 9, 4]⟩, ⟨208, 4, 3, 5, false, some ⟨g + 7, 0, none⟩, 5, [66, 1, 0, 0, 2]⟩] [(512, 128)] ([0, 0, 64, 0, 0, 0, 0, 0, 0, 0, 0, 0, 0, 0, 0, 0].take 16) [(some ⟨g + 10, 0, none⟩, 2, [192, 200]), (none, 0, [])] (g + 12) [64] (g + 13) [66] (33) (1), good_gen h1 _ _ [0, 0, 64, 0, 0, 0, 0, 0, 0, 0, 0, 0, 0, 0, 0, 0] 16 _ _ _ _ _ _ _ _ rfl ?_ rfl rfl rfl ?_ (h1 12 _ _ rfl) (h1 13 _ _ rfl) (by kernel_rfl) (by kernel_rfl), h1 14 _ _ rfl, w1, u1⟩
  · intro o ho
    simp only [List.mem_cons, List.not_mem_nil, or_false] at ho
    rcases ho with rfl | rfl | rfl | rfl | rfl | rfl
    · exact ints_of_blk (h1 2 _ _ rfl)
    · exact ints_of_blk (h1 3 _ _ rfl)
    · exact ints_of_blk (h1 4 _ _ rfl)
    · exact ints_of_blk (h1 5 _ _ rfl)
    · exact ints_of_blk (h1 6 _ _ rfl)
    · exact ints_of_blk (h1 7 _ _ rfl)
  · intro l hl
    simp only [List.mem_cons, List.not_mem_nil, or_false] at hl
    rcases hl with rfl | rfl
    · exact ⟨ints_of_blk (h1 10 _ _ rfl), fun h => by cases h⟩
    · exact ⟨.inl rfl, fun _ => ⟨rfl, rfl⟩⟩
theorem sw7 {w0 w : World} {g wb : Nat} (h : Blks w g (LS1 g)) (hw : Blk w wb 3 (ints wants)) (hwb : g + 15 ≤ wb) (hu : Upd [] w0 w) (hg : w0.heap.size ≤ g)  : AtEnd w0 g wb 7 (w.setCell ⟨g + 14, 2, none⟩ (.slice (some ⟨g + 1, 0, none⟩) 15 16)) := by
  have h1 := Blks.set h (j := 14) rfl 2 (.slice (some ⟨g + 1, 0, none⟩) 15 16)
  have w1 := hw.far (p := ⟨g + 14, 2, none⟩) (by simp; omega) (.slice (some ⟨g + 1, 0, none⟩) 15 16)
  have u1 := hu.setCell (p := ⟨g + 14, 2, none⟩) (.inr (by simp; omega)) (.slice (some ⟨g + 1, 0, none⟩) 15 16)
  refine ⟨VG g [⟨64, 1, 1, 1, true, some ⟨g + 2, 0, none⟩, 1, [5]⟩, ⟨66, 3, 0, 1, true, some ⟨g + 3, 0, none⟩, 1, [-7]⟩, ⟨128, 2, 0, 3, false, some ⟨g + 4, 0, none⟩, 3, [64, 0, 128]⟩, ⟨192, 4, 2, 5, false, some ⟨g + 5, 0, none⟩, 5, [0, -1, 200, 3, 1]⟩, ⟨200, 4, 1, 5, false, some ⟨g + 6, 0, none⟩, 5, [0, -1, 0, 9, 4]⟩, ⟨208, 4, 3, 5, false, some ⟨g + 7, 0, none⟩, 5, [66, 1, 0, 0, 2]⟩] [(512, 128)] ([0, 0, 64, 0, 0, 0, 0, 0, 0, 0, 0, 0, 0, 0, 0, 0].take 15) [(some ⟨g + 10, 0, none⟩, 2, [192, 200]), (none, 0, [])] (g + 12) [64] (g + 13) [66] (32) (1), good_gen h1 _ _ [0, 0, 64, 0, 0, 0, 0, 0, 0, 0, 0, 0, 0, 0, 0, 0] 15 _ _ _ _ _ _ _ _ rfl ?_ rfl rfl rfl ?_ (h1 12 _ _ rfl) (h1 13 _ _ rfl) (by kernel_rfl) (by kernel_rfl), h1 14 _ _ rfl, w1, u1⟩
  · intro o ho
    simp only [List.mem_cons, List.not_mem_nil, or_false] at ho
    rcases ho with rfl | rfl | rfl | rfl | rfl | rfl
    · exact ints_of_blk (h1 2 _ _ rfl)
    · exact ints_of_blk (h1 3 _ _ rfl)
    · exact ints_of_blk (h1 4 _ _ rfl)
    · exact ints_of_blk (h1 5 _ _ rfl)
    · exact ints_of_blk (h1 6 _ _ rfl)
    · exact ints_of_blk (h1 7 _ _ rfl)
  · intro l hl
    simp only [List.mem_cons, List.not_mem_nil, or_false] at hl
    rcases hl with rfl | rfl
    · exact ⟨ints_of_blk (h1 10 _ _ rfl), fun h => by cases h⟩
    · exact ⟨.inl rfl, fun _ => ⟨rfl, rfl⟩⟩
theorem sw8 {w0 w : World} {g wb : Nat} (h : Blks w g (LS1 g)) (hw : Blk w wb 3 (ints wants)) (hwb : g + 15 ≤ wb) (hu : Upd [] w0 w) (hg : w0.heap.size ≤ g)  : AtEnd w0 g wb 8 (w.setCell ⟨g + 1, 9, none⟩ (.int .i64 (65))) := by
  have h1 := Blks.set h (j := 1) rfl 9 (.int .i64 (65))
  have w1 := hw.far (p := ⟨g + 1, 9, none⟩) (by simp; omega) (.int .i64 (65))
  have u1 := hu.setCell (p := ⟨g + 1, 9, none⟩) (.inr (by simp; omega)) (.int .i64 (65))
  refine ⟨VG g [⟨64, 1, 1, 1, true, some ⟨g + 2, 0, none⟩, 1, [5]⟩, ⟨66, 3, 0, 1, true, some ⟨g + 3, 0, none⟩, 1, [-7]⟩, ⟨128, 2, 0, 3, false, some ⟨g + 4, 0, none⟩, 3, [64, 0, 128]⟩, ⟨192, 4, 2, 5, false, some ⟨g + 5, 0, none⟩, 5, [0, -1, 200, 3, 1]⟩, ⟨200, 4, 1, 5, false, some ⟨g + 6, 0, none⟩, 5, [0, -1, 0, 9, 4]⟩, ⟨208, 4, 3, 5, false, some ⟨g + 7, 0, none⟩, 5, [66, 1, 0, 0, 2]⟩] [(512, 128)] ([0, 0, 64, 0, 0, 0, 0, 0, 0, 65, 0, 0, 0, 0, 0, 0].take 16) [(some ⟨g + 10, 0, none⟩, 2, [192, 200]), (none, 0, [])] (g + 12) [64] (g + 13) [66] (32) (1), good_gen h1 _ _ [0, 0, 64, 0, 0, 0, 0, 0, 0, 65, 0, 0, 0, 0, 0, 0] 16 _ _ _ _ _ _ _ _ rfl ?_ rfl rfl rfl ?_ (h1 12 _ _ rfl) (h1 13 _ _ rfl) (by kernel_rfl) (by kernel_rfl), h1 14 _ _ rfl, w1, u1⟩
  · intro o ho
    simp only [List.mem_cons, List.not_mem_nil, or_false] at ho
    rcases ho with rfl | rfl | rfl | rfl | rfl | rfl
    · exact ints_of_blk (h1 2 _ _ rfl)
    · exact ints_of_blk (h1 3 _ _ rfl)
    · exact ints_of_blk (h1 4 _ _ rfl)
    · exact ints_of_blk (h1 5 _ _ rfl)
    · exact ints_of_blk (h1 6 _ _ rfl)
    · exact ints_of_blk (h1 7 _ _ rfl)
  · intro l hl
    simp only [List.mem_cons, List.not_mem_nil, or_false] at hl
    rcases hl with rfl | rfl
    · exact ⟨ints_of_blk (h1 10 _ _ rfl), fun h => by cases h⟩
    · exact ⟨.inl rfl, fun _ => ⟨rfl, rfl⟩⟩
theorem sw9 {w0 w : World} {g wb : Nat} (h : Blks w g (LS1 g)) (hw : Blk w wb 3 (ints wants)) (hwb : g + 15 ≤ wb) (hu : Upd [] w0 w) (hg : w0.heap.size ≤ g)  : AtEnd w0 g wb 9 (w.setCell ⟨g + 9, 1, none⟩ (.int .i64 (0))) := by
  have h1 := Blks.set h (j := 9) rfl 1 (.int .i64 (0))
  have w1 := hw.far (p := ⟨g + 9, 1, none⟩) (by simp; omega) (.int .i64 (0))
  have u1 := hu.setCell (p := ⟨g + 9, 1, none⟩) (.inr (by simp; omega)) (.int .i64 (0))
  refine ⟨VG g [⟨64, 1, 1, 1, true, some ⟨g + 2, 0, none⟩, 1, [5]⟩, ⟨66, 3, 0, 1, true, some ⟨g + 3, 0, none⟩, 1, [-7]⟩, ⟨128, 2, 0, 3, false, some ⟨g + 4, 0, none⟩, 3, [64, 0, 128]⟩, ⟨192, 4, 2, 5, false, some ⟨g + 5, 0, none⟩, 5, [0, -1, 200, 3, 1]⟩, ⟨200, 4, 1, 5, false, some ⟨g + 6, 0, none⟩, 5, [0, -1, 0, 9, 4]⟩, ⟨208, 4, 3, 5, false, some ⟨g + 7, 0, none⟩, 5, [66, 1, 0, 0, 2]⟩] [(512, 0)] ([0, 0, 64, 0, 0, 0, 0, 0, 0, 0, 0, 0, 0, 0, 0, 0].take 16) [(some ⟨g + 10, 0, none⟩, 2, [192, 200]), (none, 0, [])] (g + 12) [64] (g + 13) [66] (32) (1), good_gen h1 _ _ [0, 0, 64, 0, 0, 0, 0, 0, 0, 0, 0, 0, 0, 0, 0, 0] 16 _ _ _ _ _ _ _ _ rfl ?_ rfl rfl rfl ?_ (h1 12 _ _ rfl) (h1 13 _ _ rfl) (by kernel_rfl) (by kernel_rfl), h1 14 _ _ rfl, w1, u1⟩
  · intro o ho
    simp only [List.mem_cons, List.not_mem_nil, or_false] at ho
    rcases ho with rfl | rfl | rfl | rfl | rfl | rfl
    · exact ints_of_blk (h1 2 _ _ rfl)
    · exact ints_of_blk (h1 3 _ _ rfl)
    · exact ints_of_blk (h1 4 _ _ rfl)
    · exact ints_of_blk (h1 5 _ _ rfl)
    · exact ints_of_blk (h1 6 _ _ rfl)
    · exact ints_of_blk (h1 7 _ _ rfl)
  · intro l hl
    simp only [List.mem_cons, List.not_mem_nil, or_false] at hl
    rcases hl with rfl | rfl
    · exact ⟨ints_of_blk (h1 10 _ _ rfl), fun h => by cases h⟩
    · exact ⟨.inl rfl, fun _ => ⟨rfl, rfl⟩⟩
theorem sw10 {w0 w : World} {g wb : Nat} (h : Blks w g (LS1 g)) (hw : Blk w wb 3 (ints wants)) (hwb : g + 15 ≤ wb) (hu : Upd [] w0 w) (hg : w0.heap.size ≤ g)  : AtEnd w0 g wb 10 (w.setCell ⟨g + 4, 1, none⟩ (.int .i64 (65))) := by
  have h1 := Blks.set h (j := 4) rfl 1 (.int .i64 (65))
  have w1 := hw.far (p := ⟨g + 4, 1, none⟩) (by simp; omega) (.int .i64 (65))
  have u1 := hu.setCell (p := ⟨g + 4, 1, none⟩) (.inr (by simp; omega)) (.int .i64 (65))
  refine ⟨VG g [⟨64, 1, 1, 1, true, some ⟨g + 2, 0, none⟩, 1, [5]⟩, ⟨66, 3, 0, 1, true, some ⟨g + 3, 0, none⟩, 1, [-7]⟩, ⟨128, 2, 0, 3, false, some ⟨g + 4, 0, none⟩, 3, [64, 65, 128]⟩, ⟨192, 4, 2, 5, false, some ⟨g + 5, 0, none⟩, 5, [0, -1, 200, 3, 1]⟩, ⟨200, 4, 1, 5, false, some ⟨g + 6, 0, none⟩, 5, [0, -1, 0, 9, 4]⟩, ⟨208, 4, 3, 5, false, some ⟨g + 7, 0, none⟩, 5, [66, 1, 0, 0, 2]⟩] [(512, 128)] ([0, 0, 64, 0, 0, 0, 0, 0, 0, 0, 0, 0, 0, 0, 0, 0].take 16) [(some ⟨g + 10, 0, none⟩, 2, [192, 200]), (none, 0, [])] (g + 12) [64] (g + 13) [66] (32) (1), good_gen h1 _ _ [0, 0, 64, 0, 0, 0, 0, 0, 0, 0, 0, 0, 0, 0, 0, 0] 16 _ _ _ _ _ _ _ _ rfl ?_ rfl rfl rfl ?_ (h1 12 _ _ rfl) (h1 13 _ _ rfl) (by kernel_rfl) (by kernel_rfl), h1 14 _ _ rfl, w1, u1⟩
  · intro o ho
    simp only [List.mem_cons, List.not_mem_nil, or_false] at ho
    rcases ho with rfl | rfl | rfl | rfl | rfl | rfl
    · exact ints_of_blk (h1 2 _ _ rfl)
    · exact ints_of_blk (h1 3 _ _ rfl)
    · exact ints_of_blk (h1 4 _ _ rfl)
    · exact ints_of_blk (h1 5 _ _ rfl)
    · exact ints_of_blk (h1 6 _ _ rfl)
    · exact ints_of_blk (h1 7 _ _ rfl)
  · intro l hl
    simp only [List.mem_cons, List.not_mem_nil, or_false] at hl
    rcases hl with rfl | rfl
    · exact ⟨ints_of_blk (h1 10 _ _ rfl), fun h => by cases h⟩
    · exact ⟨.inl rfl, fun _ => ⟨rfl, rfl⟩⟩
theorem sw11 {w0 w : World} {g wb : Nat} (h : Blks w g (LS1 g)) (hw : Blk w wb 3 (ints wants)) (hwb : g + 15 ≤ wb) (hu : Upd [] w0 w) (hg : w0.heap.size ≤ g)  : AtEnd w0 g wb 11 (w.setCell ⟨g + 7, 0, none⟩ (.int .i64 (67))) := by
  have h1 := Blks.set h (j := 7) rfl 0 (.int .i64 (67))
  have w1 := hw.far (p := ⟨g + 7, 0, none⟩) (by simp; omega) (.int .i64 (67))
  have u1 := hu.setCell (p := ⟨g + 7, 0, none⟩) (.inr (by simp; omega)) (.int .i64 (67))
  refine ⟨VG g [⟨64, 1, 1, 1, true, some ⟨g + 2, 0, none⟩, 1, [5]⟩, ⟨66, 3, 0, 1, true, some ⟨g + 3, 0, none⟩, 1, [-7]⟩, ⟨128, 2, 0, 3, false, some ⟨g + 4, 0, none⟩, 3, [64, 0, 128]⟩, ⟨192, 4, 2, 5, false, some ⟨g + 5, 0, none⟩, 5, [0, -1, 200, 3, 1]⟩, ⟨200, 4, 1, 5, false, some ⟨g + 6, 0, none⟩, 5, [0, -1, 0, 9, 4]⟩, ⟨208, 4, 3, 5, false, some ⟨g + 7, 0, none⟩, 5, [67, 1, 0, 0, 2]⟩] [(512, 128)] ([0, 0, 64, 0, 0, 0, 0, 0, 0, 0, 0, 0, 0, 0, 0, 0].take 16) [(some ⟨g + 10, 0, none⟩, 2, [192, 200]), (none, 0, [])] (g + 12) [64] (g + 13) [66] (32) (1), good_gen h1 _ _ [0, 0, 64, 0, 0, 0, 0, 0, 0, 0, 0, 0, 0, 0, 0, 0] 16 _ _ _ _ _ _ _ _ rfl ?_ rfl rfl rfl ?_ (h1 12 _ _ rfl) (h1 13 _ _ rfl) (by kernel_rfl) (by kernel_rfl), h1 14 _ _ rfl, w1, u1⟩
  · intro o ho
    simp only [List.mem_cons, List.not_mem_nil, or_false] at ho
    rcases ho with rfl | rfl | rfl | rfl | rfl | rfl
    · exact ints_of_blk (h1 2 _ _ rfl)
    · exact ints_of_blk (h1 3 _ _ rfl)
    · exact ints_of_blk (h1 4 _ _ rfl)
    · exact ints_of_blk (h1 5 _ _ rfl)
    · exact ints_of_blk (h1 6 _ _ rfl)
    · exact ints_of_blk (h1 7 _ _ rfl)
  · intro l hl
    simp only [List.mem_cons, List.not_mem_nil, or_false] at hl
    rcases hl with rfl | rfl
    · exact ⟨ints_of_blk (h1 10 _ _ rfl), fun h => by cases h⟩
    · exact ⟨.inl rfl, fun _ => ⟨rfl, rfl⟩⟩
theorem sw12 {w0 w : World} {g wb : Nat} (h : Blks w g (LS1 g)) (hw : Blk w wb 3 (ints wants)) (hwb : g + 15 ≤ wb) (hu : Upd [] w0 w) (hg : w0.heap.size ≤ g)  : AtEnd w0 g wb 12 (w.setCell ⟨g + 7, 2, none⟩ (.int .i64 (-1))) := by
  have h1 := Blks.set h (j := 7) rfl 2 (.int .i64 (-1))
  have w1 := hw.far (p := ⟨g + 7, 2, none⟩) (by simp; omega) (.int .i64 (-1))
  have u1 := hu.setCell (p := ⟨g + 7, 2, none⟩) (.inr (by simp; omega)) (.int .i64 (-1))
  refine ⟨VG g [⟨64, 1, 1, 1, true, some ⟨g + 2, 0, none⟩, 1, [5]⟩, ⟨66, 3, 0, 1, true, some ⟨g + 3, 0, none⟩, 1, [-7]⟩, ⟨128, 2, 0, 3, false, some ⟨g + 4, 0, none⟩, 3, [64, 0, 128]⟩, ⟨192, 4, 2, 5, false, some ⟨g + 5, 0, none⟩, 5, [0, -1, 200, 3, 1]⟩, ⟨200, 4, 1, 5, false, some ⟨g + 6, 0, none⟩, 5, [0, -1, 0, 9, 4]⟩, ⟨208, 4, 3, 5, false, some ⟨g + 7, 0, none⟩, 5, [66, 1, -1, 0, 2]⟩] [(512, 128)] ([0, 0, 64, 0, 0, 0, 0, 0, 0, 0, 0, 0, 0, 0, 0, 0].take 16) [(some ⟨g + 10, 0, none⟩, 2, [192, 200]), (none, 0, [])] (g + 12) [64] (g + 13) [66] (32) (1), good_gen h1 _ _ [0, 0, 64, 0, 0, 0, 0, 0, 0, 0, 0, 0, 0, 0, 0, 0] 16 _ _ _ _ _ _ _ _ rfl ?_ rfl rfl rfl ?_ (h1 12 _ _ rfl) (h1 13 _ _ rfl) (by kernel_rfl) (by kernel_rfl), h1 14 _ _ rfl, w1, u1⟩
  · intro o ho
    simp only [List.mem_cons, List.not_mem_nil, or_false] at ho
    rcases ho with rfl | rfl | rfl | rfl | rfl | rfl
    · exact ints_of_blk (h1 2 _ _ rfl)
    · exact ints_of_blk (h1 3 _ _ rfl)
    · exact ints_of_blk (h1 4 _ _ rfl)
    · exact ints_of_blk (h1 5 _ _ rfl)
    · exact ints_of_blk (h1 6 _ _ rfl)
    · exact ints_of_blk (h1 7 _ _ rfl)
  · intro l hl
    simp only [List.mem_cons, List.not_mem_nil, or_false] at hl
    rcases hl with rfl | rfl
    · exact ⟨ints_of_blk (h1 10 _ _ rfl), fun h => by cases h⟩
    · exact ⟨.inl rfl, fun _ => ⟨rfl, rfl⟩⟩
theorem sw13 {w0 w : World} {g wb : Nat} (h : Blks w g (LS1 g)) (hw : Blk w wb 3 (ints wants)) (hwb : g + 15 ≤ wb) (hu : Upd [] w0 w) (hg : w0.heap.size ≤ g)  (hz : g + 15 ≤ w.heap.size) (nb : Nat) (hnb : w.heap.size = nb) : AtEnd w0 g wb 13 ((w.alloc (.cells #[.int .i64 (66)] 3)).setCell ⟨g + 11, 1, none⟩ (.slice (some ⟨nb, 0, none⟩) 1 1)) := by
  have h1 := h.upd ((Upd.refl [] _).alloc (.cells #[.int .i64 (66)] 3))
  have w1 := hw.alloc (.cells #[.int .i64 (66)] 3)
  have u1 := hu.alloc (.cells #[.int .i64 (66)] 3)
  have n1 : Blk (World.alloc w (.cells #[.int .i64 (66)] 3)) nb 3 (ints [66]) := by
    rw [← hnb]; exact Blk.new _ _ _
  have h2 := Blks.set h1 (j := 11) rfl 1 (.slice (some ⟨nb, 0, none⟩) 1 1)
  have w2 := w1.far (p := ⟨g + 11, 1, none⟩) (by simp; omega) (.slice (some ⟨nb, 0, none⟩) 1 1)
  have u2 := u1.setCell (p := ⟨g + 11, 1, none⟩) (.inr (by simp; omega)) (.slice (some ⟨nb, 0, none⟩) 1 1)
  have n2 := n1.far (p := ⟨g + 11, 1, none⟩) (by simp; omega) (.slice (some ⟨nb, 0, none⟩) 1 1)
  refine ⟨VG g [⟨64, 1, 1, 1, true, some ⟨g + 2, 0, none⟩, 1, [5]⟩, ⟨66, 3, 0, 1, true, some ⟨g + 3, 0, none⟩, 1, [-7]⟩, ⟨128, 2, 0, 3, false, some ⟨g + 4, 0, none⟩, 3, [64, 0, 128]⟩, ⟨192, 4, 2, 5, false, some ⟨g + 5, 0, none⟩, 5, [0, -1, 200, 3, 1]⟩, ⟨200, 4, 1, 5, false, some ⟨g + 6, 0, none⟩, 5, [0, -1, 0, 9, 4]⟩, ⟨208, 4, 3, 5, false, some ⟨g + 7, 0, none⟩, 5, [66, 1, 0, 0, 2]⟩] [(512, 128)] ([0, 0, 64, 0, 0, 0, 0, 0, 0, 0, 0, 0, 0, 0, 0, 0].take 16) [(some ⟨g + 10, 0, none⟩, 2, [192, 200]), (some ⟨nb, 0, none⟩, 1, [66])] (g + 12) [64] (g + 13) [66] (32) (1), good_gen h2 _ _ [0, 0, 64, 0, 0, 0, 0, 0, 0, 0, 0, 0, 0, 0, 0, 0] 16 _ _ _ _ _ _ _ _ rfl ?_ rfl rfl rfl ?_ (h2 12 _ _ rfl) (h2 13 _ _ rfl) (by kernel_rfl) (by kernel_rfl), h2 14 _ _ rfl, w2, u2⟩
  · intro o ho
    simp only [List.mem_cons, List.not_mem_nil, or_false] at ho
    rcases ho with rfl | rfl | rfl | rfl | rfl | rfl
    · exact ints_of_blk (h2 2 _ _ rfl)
    · exact ints_of_blk (h2 3 _ _ rfl)
    · exact ints_of_blk (h2 4 _ _ rfl)
    · exact ints_of_blk (h2 5 _ _ rfl)
    · exact ints_of_blk (h2 6 _ _ rfl)
    · exact ints_of_blk (h2 7 _ _ rfl)
  · intro l hl
    simp only [List.mem_cons, List.not_mem_nil, or_false] at hl
    rcases hl with rfl | rfl
    · exact ⟨ints_of_blk (h2 10 _ _ rfl), fun h => by cases h⟩
    · exact ⟨ints_of_blk n2, fun h => by cases h⟩
theorem sw14 {w0 w : World} {g wb : Nat} (h : Blks w g (LS1 g)) (hw : Blk w wb 3 (ints wants)) (hwb : g + 15 ≤ wb) (hu : Upd [] w0 w) (hg : w0.heap.size ≤ g)  (hz : g + 15 ≤ w.heap.size) (nb : Nat) (hnb : w.heap.size = nb) : AtEnd w0 g wb 14 ((w.alloc (.cells #[.int .i64 (192)] 3)).setCell ⟨g + 11, 0, none⟩ (.slice (some ⟨nb, 0, none⟩) 1 1)) := by
  have h1 := h.upd ((Upd.refl [] _).alloc (.cells #[.int .i64 (192)] 3))
  have w1 := hw.alloc (.cells #[.int .i64 (192)] 3)
  have u1 := hu.alloc (.cells #[.int .i64 (192)] 3)
  have n1 : Blk (World.alloc w (.cells #[.int .i64 (192)] 3)) nb 3 (ints [192]) := by
    rw [← hnb]; exact Blk.new _ _ _
  have h2 := Blks.set h1 (j := 11) rfl 0 (.slice (some ⟨nb, 0, none⟩) 1 1)
  have w2 := w1.far (p := ⟨g + 11, 0, none⟩) (by simp; omega) (.slice (some ⟨nb, 0, none⟩) 1 1)
  have u2 := u1.setCell (p := ⟨g + 11, 0, none⟩) (.inr (by simp; omega)) (.slice (some ⟨nb, 0, none⟩) 1 1)
  have n2 := n1.far (p := ⟨g + 11, 0, none⟩) (by simp; omega) (.slice (some ⟨nb, 0, none⟩) 1 1)
  refine ⟨VG g [⟨64, 1, 1, 1, true, some ⟨g + 2, 0, none⟩, 1, [5]⟩, ⟨66, 3, 0, 1, true, some ⟨g + 3, 0, none⟩, 1, [-7]⟩, ⟨128, 2, 0, 3, false, some ⟨g + 4, 0, none⟩, 3, [64, 0, 128]⟩, ⟨192, 4, 2, 5, false, some ⟨g + 5, 0, none⟩, 5, [0, -1, 200, 3, 1]⟩, ⟨200, 4, 1, 5, false, some ⟨g + 6, 0, none⟩, 5, [0, -1, 0, 9, 4]⟩, ⟨208, 4, 3, 5, false, some ⟨g + 7, 0, none⟩, 5, [66, 1, 0, 0, 2]⟩] [(512, 128)] ([0, 0, 64, 0, 0, 0, 0, 0, 0, 0, 0, 0, 0, 0, 0, 0].take 16) [(some ⟨nb, 0, none⟩, 1, [192]), (none, 0, [])] (g + 12) [64] (g + 13) [66] (32) (1), good_gen h2 _ _ [0, 0, 64, 0, 0, 0, 0, 0, 0, 0, 0, 0, 0, 0, 0, 0] 16 _ _ _ _ _ _ _ _ rfl ?_ rfl rfl rfl ?_ (h2 12 _ _ rfl) (h2 13 _ _ rfl) (by kernel_rfl) (by kernel_rfl), h2 14 _ _ rfl, w2, u2⟩
  · intro o ho
    simp only [List.mem_cons, List.not_mem_nil, or_false] at ho
    rcases ho with rfl | rfl | rfl | rfl | rfl | rfl
    · exact ints_of_blk (h2 2 _ _ rfl)
    · exact ints_of_blk (h2 3 _ _ rfl)
    · exact ints_of_blk (h2 4 _ _ rfl)
    · exact ints_of_blk (h2 5 _ _ rfl)
    · exact ints_of_blk (h2 6 _ _ rfl)
    · exact ints_of_blk (h2 7 _ _ rfl)
  · intro l hl
    simp only [List.mem_cons, List.not_mem_nil, or_false] at hl
    rcases hl with rfl | rfl
    · exact ⟨ints_of_blk n2, fun h => by cases h⟩
    · exact ⟨.inl rfl, fun _ => ⟨rfl, rfl⟩⟩
theorem sw15 {w0 w : World} {g wb : Nat} (h : Blks w g (LS1 g)) (hw : Blk w wb 3 (ints wants)) (hwb : g + 15 ≤ wb) (hu : Upd [] w0 w) (hg : w0.heap.size ≤ g)  : AtEnd w0 g wb 15 (w.setCell ⟨g + 5, 1, none⟩ (.int .i64 (1))) := by
  have h1 := Blks.set h (j := 5) rfl 1 (.int .i64 (1))
  have w1 := hw.far (p := ⟨g + 5, 1, none⟩) (by simp; omega) (.int .i64 (1))
  have u1 := hu.setCell (p := ⟨g + 5, 1, none⟩) (.inr (by simp; omega)) (.int .i64 (1))
  refine ⟨VG g [⟨64, 1, 1, 1, true, some ⟨g + 2, 0, none⟩, 1, [5]⟩, ⟨66, 3, 0, 1, true, some ⟨g + 3, 0, none⟩, 1, [-7]⟩, ⟨128, 2, 0, 3, false, some ⟨g + 4, 0, none⟩, 3, [64, 0, 128]⟩, ⟨192, 4, 2, 5, false, some ⟨g + 5, 0, none⟩, 5, [0, 1, 200, 3, 1]⟩, ⟨200, 4, 1, 5, false, some ⟨g + 6, 0, none⟩, 5, [0, -1, 0, 9, 4]⟩, ⟨208, 4, 3, 5, false, some ⟨g + 7, 0, none⟩, 5, [66, 1, 0, 0, 2]⟩] [(512, 128)] ([0, 0, 64, 0, 0, 0, 0, 0, 0, 0, 0, 0, 0, 0, 0, 0].take 16) [(some ⟨g + 10, 0, none⟩, 2, [192, 200]), (none, 0, [])] (g + 12) [64] (g + 13) [66] (32) (1), good_gen h1 _ _ [0, 0, 64, 0, 0, 0, 0, 0, 0, 0, 0, 0, 0, 0, 0, 0] 16 _ _ _ _ _ _ _ _ rfl ?_ rfl rfl rfl ?_ (h1 12 _ _ rfl) (h1 13 _ _ rfl) (by kernel_rfl) (by kernel_rfl), h1 14 _ _ rfl, w1, u1⟩
  · intro o ho
    simp only [List.mem_cons, List.not_mem_nil, or_false] at ho
    rcases ho with rfl | rfl | rfl | rfl | rfl | rfl
    · exact ints_of_blk (h1 2 _ _ rfl)
    · exact ints_of_blk (h1 3 _ _ rfl)
    · exact ints_of_blk (h1 4 _ _ rfl)
    · exact ints_of_blk (h1 5 _ _ rfl)
    · exact ints_of_blk (h1 6 _ _ rfl)
    · exact ints_of_blk (h1 7 _ _ rfl)
  · intro l hl
    simp only [List.mem_cons, List.not_mem_nil, or_false] at hl
    rcases hl with rfl | rfl
    · exact ⟨ints_of_blk (h1 10 _ _ rfl), fun h => by cases h⟩
    · exact ⟨.inl rfl, fun _ => ⟨rfl, rfl⟩⟩
theorem sw16 {w0 w : World} {g wb : Nat} (h : Blks w g (LS1 g)) (hw : Blk w wb 3 (ints wants)) (hwb : g + 15 ≤ wb) (hu : Upd [] w0 w) (hg : w0.heap.size ≤ g)  : AtEnd w0 g wb 16 (w.setCell ⟨g + 6, 0, none⟩ (.int .i64 (64))) := by
  have h1 := Blks.set h (j := 6) rfl 0 (.int .i64 (64))
  have w1 := hw.far (p := ⟨g + 6, 0, none⟩) (by simp; omega) (.int .i64 (64))
  have u1 := hu.setCell (p := ⟨g + 6, 0, none⟩) (.inr (by simp; omega)) (.int .i64 (64))
  refine ⟨VG g [⟨64, 1, 1, 1, true, some ⟨g + 2, 0, none⟩, 1, [5]⟩, ⟨66, 3, 0, 1, true, some ⟨g + 3, 0, none⟩, 1, [-7]⟩, ⟨128, 2, 0, 3, false, some ⟨g + 4, 0, none⟩, 3, [64, 0, 128]⟩, ⟨192, 4, 2, 5, false, some ⟨g + 5, 0, none⟩, 5, [0, -1, 200, 3, 1]⟩, ⟨200, 4, 1, 5, false, some ⟨g + 6, 0, none⟩, 5, [64, -1, 0, 9, 4]⟩, ⟨208, 4, 3, 5, false, some ⟨g + 7, 0, none⟩, 5, [66, 1, 0, 0, 2]⟩] [(512, 128)] ([0, 0, 64, 0, 0, 0, 0, 0, 0, 0, 0, 0, 0, 0, 0, 0].take 16) [(some ⟨g + 10, 0, none⟩, 2, [192, 200]), (none, 0, [])] (g + 12) [64] (g + 13) [66] (32) (1), good_gen h1 _ _ [0, 0, 64, 0, 0, 0, 0, 0, 0, 0, 0, 0, 0, 0, 0, 0] 16 _ _ _ _ _ _ _ _ rfl ?_ rfl rfl rfl ?_ (h1 12 _ _ rfl) (h1 13 _ _ rfl) (by kernel_rfl) (by kernel_rfl), h1 14 _ _ rfl, w1, u1⟩
  · intro o ho
    simp only [List.mem_cons, List.not_mem_nil, or_false] at ho
    rcases ho with rfl | rfl | rfl | rfl | rfl | rfl
    · exact ints_of_blk (h1 2 _ _ rfl)
    · exact ints_of_blk (h1 3 _ _ rfl)
    · exact ints_of_blk (h1 4 _ _ rfl)
    · exact ints_of_blk (h1 5 _ _ rfl)
    · exact ints_of_blk (h1 6 _ _ rfl)
    · exact ints_of_blk (h1 7 _ _ rfl)
  · intro l hl
    simp only [List.mem_cons, List.not_mem_nil, or_false] at hl
    rcases hl with rfl | rfl
    · exact ⟨ints_of_blk (h1 10 _ _ rfl), fun h => by cases h⟩
    · exact ⟨.inl rfl, fun _ => ⟨rfl, rfl⟩⟩
theorem sw17 {w0 w : World} {g wb : Nat} (h : Blks w g (LS1 g)) (hw : Blk w wb 3 (ints wants)) (hwb : g + 15 ≤ wb) (hu : Upd [] w0 w) (hg : w0.heap.size ≤ g)  (hz : g + 15 ≤ w.heap.size) (nb : Nat) (hnb : w.heap.size = nb) : AtEnd w0 g wb 17 ((w.alloc (.cells #[.int .i64 (200)] 3)).setCell ⟨g + 11, 1, none⟩ (.slice (some ⟨nb, 0, none⟩) 1 1)) := by
  have h1 := h.upd ((Upd.refl [] _).alloc (.cells #[.int .i64 (200)] 3))
  have w1 := hw.alloc (.cells #[.int .i64 (200)] 3)
  have u1 := hu.alloc (.cells #[.int .i64 (200)] 3)
  have n1 : Blk (World.alloc w (.cells #[.int .i64 (200)] 3)) nb 3 (ints [200]) := by
    rw [← hnb]; exact Blk.new _ _ _
  have h2 := Blks.set h1 (j := 11) rfl 1 (.slice (some ⟨nb, 0, none⟩) 1 1)
  have w2 := w1.far (p := ⟨g + 11, 1, none⟩) (by simp; omega) (.slice (some ⟨nb, 0, none⟩) 1 1)
  have u2 := u1.setCell (p := ⟨g + 11, 1, none⟩) (.inr (by simp; omega)) (.slice (some ⟨nb, 0, none⟩) 1 1)
  have n2 := n1.far (p := ⟨g + 11, 1, none⟩) (by simp; omega) (.slice (some ⟨nb, 0, none⟩) 1 1)
  refine ⟨VG g [⟨64, 1, 1, 1, true, some ⟨g + 2, 0, none⟩, 1, [5]⟩, ⟨66, 3, 0, 1, true, some ⟨g + 3, 0, none⟩, 1, [-7]⟩, ⟨128, 2, 0, 3, false, some ⟨g + 4, 0, none⟩, 3, [64, 0, 128]⟩, ⟨192, 4, 2, 5, false, some ⟨g + 5, 0, none⟩, 5, [0, -1, 200, 3, 1]⟩, ⟨200, 4, 1, 5, false, some ⟨g + 6, 0, none⟩, 5, [0, -1, 0, 9, 4]⟩, ⟨208, 4, 3, 5, false, some ⟨g + 7, 0, none⟩, 5, [66, 1, 0, 0, 2]⟩] [(512, 128)] ([0, 0, 64, 0, 0, 0, 0, 0, 0, 0, 0, 0, 0, 0, 0, 0].take 16) [(some ⟨g + 10, 0, none⟩, 2, [192, 200]), (some ⟨nb, 0, none⟩, 1, [200])] (g + 12) [64] (g + 13) [66] (32) (1), good_gen h2 _ _ [0, 0, 64, 0, 0, 0, 0, 0, 0, 0, 0, 0, 0, 0, 0, 0] 16 _ _ _ _ _ _ _ _ rfl ?_ rfl rfl rfl ?_ (h2 12 _ _ rfl) (h2 13 _ _ rfl) (by kernel_rfl) (by kernel_rfl), h2 14 _ _ rfl, w2, u2⟩
  · intro o ho
    simp only [List.mem_cons, List.not_mem_nil, or_false] at ho
    rcases ho with rfl | rfl | rfl | rfl | rfl | rfl
    · exact ints_of_blk (h2 2 _ _ rfl)
    · exact ints_of_blk (h2 3 _ _ rfl)
    · exact ints_of_blk (h2 4 _ _ rfl)
    · exact ints_of_blk (h2 5 _ _ rfl)
    · exact ints_of_blk (h2 6 _ _ rfl)
    · exact ints_of_blk (h2 7 _ _ rfl)
  · intro l hl
    simp only [List.mem_cons, List.not_mem_nil, or_false] at hl
    rcases hl with rfl | rfl
    · exact ⟨ints_of_blk (h2 10 _ _ rfl), fun h => by cases h⟩
    · exact ⟨ints_of_blk n2, fun h => by cases h⟩
theorem sw18 {w0 w : World} {g wb : Nat} (h : Blks w g (LS1 g)) (hw : Blk w wb 3 (ints wants)) (hwb : g + 15 ≤ wb) (hu : Upd [] w0 w) (hg : w0.heap.size ≤ g)  (hz : g + 15 ≤ w.heap.size) (nb : Nat) (hnb : w.heap.size = nb) : AtEnd w0 g wb 18 ((w.alloc (.cells #[.int .i64 (128)] 3)).setCell ⟨g + 14, 4, none⟩ (.slice (some ⟨nb, 0, none⟩) 1 1)) := by
  have h1 := h.upd ((Upd.refl [] _).alloc (.cells #[.int .i64 (128)] 3))
  have w1 := hw.alloc (.cells #[.int .i64 (128)] 3)
  have u1 := hu.alloc (.cells #[.int .i64 (128)] 3)
  have n1 : Blk (World.alloc w (.cells #[.int .i64 (128)] 3)) nb 3 (ints [128]) := by
    rw [← hnb]; exact Blk.new _ _ _
  have h2 := Blks.set h1 (j := 14) rfl 4 (.slice (some ⟨nb, 0, none⟩) 1 1)
  have w2 := w1.far (p := ⟨g + 14, 4, none⟩) (by simp; omega) (.slice (some ⟨nb, 0, none⟩) 1 1)
  have u2 := u1.setCell (p := ⟨g + 14, 4, none⟩) (.inr (by simp; omega)) (.slice (some ⟨nb, 0, none⟩) 1 1)
  have n2 := n1.far (p := ⟨g + 14, 4, none⟩) (by simp; omega) (.slice (some ⟨nb, 0, none⟩) 1 1)
  refine ⟨VG g [⟨64, 1, 1, 1, true, some ⟨g + 2, 0, none⟩, 1, [5]⟩, ⟨66, 3, 0, 1, true, some ⟨g + 3, 0, none⟩, 1, [-7]⟩, ⟨128, 2, 0, 3, false, some ⟨g + 4, 0, none⟩, 3, [64, 0, 128]⟩, ⟨192, 4, 2, 5, false, some ⟨g + 5, 0, none⟩, 5, [0, -1, 200, 3, 1]⟩, ⟨200, 4, 1, 5, false, some ⟨g + 6, 0, none⟩, 5, [0, -1, 0, 9, 4]⟩, ⟨208, 4, 3, 5, false, some ⟨g + 7, 0, none⟩, 5, [66, 1, 0, 0, 2]⟩] [(512, 128)] ([0, 0, 64, 0, 0, 0, 0, 0, 0, 0, 0, 0, 0, 0, 0, 0].take 16) [(some ⟨g + 10, 0, none⟩, 2, [192, 200]), (none, 0, [])] (nb) [128] (g + 13) [66] (32) (1), good_gen h2 _ _ [0, 0, 64, 0, 0, 0, 0, 0, 0, 0, 0, 0, 0, 0, 0, 0] 16 _ _ _ _ _ _ _ _ rfl ?_ rfl rfl rfl ?_ n2 (h2 13 _ _ rfl) (by kernel_rfl) (by kernel_rfl), h2 14 _ _ rfl, w2, u2⟩
  · intro o ho
    simp only [List.mem_cons, List.not_mem_nil, or_false] at ho
    rcases ho with rfl | rfl | rfl | rfl | rfl | rfl
    · exact ints_of_blk (h2 2 _ _ rfl)
    · exact ints_of_blk (h2 3 _ _ rfl)
    · exact ints_of_blk (h2 4 _ _ rfl)
    · exact ints_of_blk (h2 5 _ _ rfl)
    · exact ints_of_blk (h2 6 _ _ rfl)
    · exact ints_of_blk (h2 7 _ _ rfl)
  · intro l hl
    simp only [List.mem_cons, List.not_mem_nil, or_false] at hl
    rcases hl with rfl | rfl
    · exact ⟨ints_of_blk (h2 10 _ _ rfl), fun h => by cases h⟩
    · exact ⟨.inl rfl, fun _ => ⟨rfl, rfl⟩⟩
theorem sw19 {w0 w : World} {g wb : Nat} (h : Blks w g (LS1 g)) (hw : Blk w wb 3 (ints wants)) (hwb : g + 15 ≤ wb) (hu : Upd [] w0 w) (hg : w0.heap.size ≤ g)  (hz : g + 15 ≤ w.heap.size) (nb : Nat) (hnb : w.heap.size = nb) : AtEnd w0 g wb 19 ((w.alloc (.cells #[.int .i64 (64), .int .i64 (66)] 3)).setCell ⟨g + 14, 4, none⟩ (.slice (some ⟨nb, 0, none⟩) 2 2)) := by
  have h1 := h.upd ((Upd.refl [] _).alloc (.cells #[.int .i64 (64), .int .i64 (66)] 3))
  have w1 := hw.alloc (.cells #[.int .i64 (64), .int .i64 (66)] 3)
  have u1 := hu.alloc (.cells #[.int .i64 (64), .int .i64 (66)] 3)
  have n1 : Blk (World.alloc w (.cells #[.int .i64 (64), .int .i64 (66)] 3)) nb 3 (ints [64, 66]) := by
    rw [← hnb]; exact Blk.new _ _ _
  have h2 := Blks.set h1 (j := 14) rfl 4 (.slice (some ⟨nb, 0, none⟩) 2 2)
  have w2 := w1.far (p := ⟨g + 14, 4, none⟩) (by simp; omega) (.slice (some ⟨nb, 0, none⟩) 2 2)
  have u2 := u1.setCell (p := ⟨g + 14, 4, none⟩) (.inr (by simp; omega)) (.slice (some ⟨nb, 0, none⟩) 2 2)
  have n2 := n1.far (p := ⟨g + 14, 4, none⟩) (by simp; omega) (.slice (some ⟨nb, 0, none⟩) 2 2)
  refine ⟨VG g [⟨64, 1, 1, 1, true, some ⟨g + 2, 0, none⟩, 1, [5]⟩, ⟨66, 3, 0, 1, true, some ⟨g + 3, 0, none⟩, 1, [-7]⟩, ⟨128, 2, 0, 3, false, some ⟨g + 4, 0, none⟩, 3, [64, 0, 128]⟩, ⟨192, 4, 2, 5, false, some ⟨g + 5, 0, none⟩, 5, [0, -1, 200, 3, 1]⟩, ⟨200, 4, 1, 5, false, some ⟨g + 6, 0, none⟩, 5, [0, -1, 0, 9, 4]⟩, ⟨208, 4, 3, 5, false, some ⟨g + 7, 0, none⟩, 5, [66, 1, 0, 0, 2]⟩] [(512, 128)] ([0, 0, 64, 0, 0, 0, 0, 0, 0, 0, 0, 0, 0, 0, 0, 0].take 16) [(some ⟨g + 10, 0, none⟩, 2, [192, 200]), (none, 0, [])] (nb) [64, 66] (g + 13) [66] (32) (1), good_gen h2 _ _ [0, 0, 64, 0, 0, 0, 0, 0, 0, 0, 0, 0, 0, 0, 0, 0] 16 _ _ _ _ _ _ _ _ rfl ?_ rfl rfl rfl ?_ n2 (h2 13 _ _ rfl) (by kernel_rfl) (by kernel_rfl), h2 14 _ _ rfl, w2, u2⟩
  · intro o ho
    simp only [List.mem_cons, List.not_mem_nil, or_false] at ho
    rcases ho with rfl | rfl | rfl | rfl | rfl | rfl
    · exact ints_of_blk (h2 2 _ _ rfl)
    · exact ints_of_blk (h2 3 _ _ rfl)
    · exact ints_of_blk (h2 4 _ _ rfl)
    · exact ints_of_blk (h2 5 _ _ rfl)
    · exact ints_of_blk (h2 6 _ _ rfl)
    · exact ints_of_blk (h2 7 _ _ rfl)
  · intro l hl
    simp only [List.mem_cons, List.not_mem_nil, or_false] at hl
    rcases hl with rfl | rfl
    · exact ⟨ints_of_blk (h2 10 _ _ rfl), fun h => by cases h⟩
    · exact ⟨.inl rfl, fun _ => ⟨rfl, rfl⟩⟩
theorem sw20 {w0 w : World} {g wb : Nat} (h : Blks w g (LS1 g)) (hw : Blk w wb 3 (ints wants)) (hwb : g + 15 ≤ wb) (hu : Upd [] w0 w) (hg : w0.heap.size ≤ g)  (hz : g + 15 ≤ w.heap.size) (nb : Nat) (hnb : w.heap.size = nb) : AtEnd w0 g wb 20 ((w.alloc (.cells #[.int .i64 (66), .int .i64 (66)] 3)).setCell ⟨g + 14, 5, none⟩ (.slice (some ⟨nb, 0, none⟩) 2 2)) := by
  have h1 := h.upd ((Upd.refl [] _).alloc (.cells #[.int .i64 (66), .int .i64 (66)] 3))
  have w1 := hw.alloc (.cells #[.int .i64 (66), .int .i64 (66)] 3)
  have u1 := hu.alloc (.cells #[.int .i64 (66), .int .i64 (66)] 3)
  have n1 : Blk (World.alloc w (.cells #[.int .i64 (66), .int .i64 (66)] 3)) nb 3 (ints [66, 66]) := by
    rw [← hnb]; exact Blk.new _ _ _
  have h2 := Blks.set h1 (j := 14) rfl 5 (.slice (some ⟨nb, 0, none⟩) 2 2)
  have w2 := w1.far (p := ⟨g + 14, 5, none⟩) (by simp; omega) (.slice (some ⟨nb, 0, none⟩) 2 2)
  have u2 := u1.setCell (p := ⟨g + 14, 5, none⟩) (.inr (by simp; omega)) (.slice (some ⟨nb, 0, none⟩) 2 2)
  have n2 := n1.far (p := ⟨g + 14, 5, none⟩) (by simp; omega) (.slice (some ⟨nb, 0, none⟩) 2 2)
  refine ⟨VG g [⟨64, 1, 1, 1, true, some ⟨g + 2, 0, none⟩, 1, [5]⟩, ⟨66, 3, 0, 1, true, some ⟨g + 3, 0, none⟩, 1, [-7]⟩, ⟨128, 2, 0, 3, false, some ⟨g + 4, 0, none⟩, 3, [64, 0, 128]⟩, ⟨192, 4, 2, 5, false, some ⟨g + 5, 0, none⟩, 5, [0, -1, 200, 3, 1]⟩, ⟨200, 4, 1, 5, false, some ⟨g + 6, 0, none⟩, 5, [0, -1, 0, 9, 4]⟩, ⟨208, 4, 3, 5, false, some ⟨g + 7, 0, none⟩, 5, [66, 1, 0, 0, 2]⟩] [(512, 128)] ([0, 0, 64, 0, 0, 0, 0, 0, 0, 0, 0, 0, 0, 0, 0, 0].take 16) [(some ⟨g + 10, 0, none⟩, 2, [192, 200]), (none, 0, [])] (g + 12) [64] (nb) [66, 66] (32) (1), good_gen h2 _ _ [0, 0, 64, 0, 0, 0, 0, 0, 0, 0, 0, 0, 0, 0, 0, 0] 16 _ _ _ _ _ _ _ _ rfl ?_ rfl rfl rfl ?_ (h2 12 _ _ rfl) n2 (by kernel_rfl) (by kernel_rfl), h2 14 _ _ rfl, w2, u2⟩
  · intro o ho
    simp only [List.mem_cons, List.not_mem_nil, or_false] at ho
    rcases ho with rfl | rfl | rfl | rfl | rfl | rfl
    · exact ints_of_blk (h2 2 _ _ rfl)
    · exact ints_of_blk (h2 3 _ _ rfl)
    · exact ints_of_blk (h2 4 _ _ rfl)
    · exact ints_of_blk (h2 5 _ _ rfl)
    · exact ints_of_blk (h2 6 _ _ rfl)
    · exact ints_of_blk (h2 7 _ _ rfl)
  · intro l hl
    simp only [List.mem_cons, List.not_mem_nil, or_false] at hl
    rcases hl with rfl | rfl
    · exact ⟨ints_of_blk (h2 10 _ _ rfl), fun h => by cases h⟩
    · exact ⟨.inl rfl, fun _ => ⟨rfl, rfl⟩⟩
theorem sw21 {w0 w : World} {g wb : Nat} (h : Blks w g (LS1 g)) (hw : Blk w wb 3 (ints wants)) (hwb : g + 15 ≤ wb) (hu : Upd [] w0 w) (hg : w0.heap.size ≤ g)  (hz : g + 15 ≤ w.heap.size) (nb : Nat) (hnb : w.heap.size = nb) : AtEnd w0 g wb 21 ((w.alloc (.cells #[.int .i64 (65)] 3)).setCell ⟨g + 14, 4, none⟩ (.slice (some ⟨nb, 0, none⟩) 1 1)) := by
  have h1 := h.upd ((Upd.refl [] _).alloc (.cells #[.int .i64 (65)] 3))
  have w1 := hw.alloc (.cells #[.int .i64 (65)] 3)
  have u1 := hu.alloc (.cells #[.int .i64 (65)] 3)
  have n1 : Blk (World.alloc w (.cells #[.int .i64 (65)] 3)) nb 3 (ints [65]) := by
    rw [← hnb]; exact Blk.new _ _ _
  have h2 := Blks.set h1 (j := 14) rfl 4 (.slice (some ⟨nb, 0, none⟩) 1 1)
  have w2 := w1.far (p := ⟨g + 14, 4, none⟩) (by simp; omega) (.slice (some ⟨nb, 0, none⟩) 1 1)
  have u2 := u1.setCell (p := ⟨g + 14, 4, none⟩) (.inr (by simp; omega)) (.slice (some ⟨nb, 0, none⟩) 1 1)
  have n2 := n1.far (p := ⟨g + 14, 4, none⟩) (by simp; omega) (.slice (some ⟨nb, 0, none⟩) 1 1)
  refine ⟨VG g [⟨64, 1, 1, 1, true, some ⟨g + 2, 0, none⟩, 1, [5]⟩, ⟨66, 3, 0, 1, true, some ⟨g + 3, 0, none⟩, 1, [-7]⟩, ⟨128, 2, 0, 3, false, some ⟨g + 4, 0, none⟩, 3, [64, 0, 128]⟩, ⟨192, 4, 2, 5, false, some ⟨g + 5, 0, none⟩, 5, [0, -1, 200, 3, 1]⟩, ⟨200, 4, 1, 5, false, some ⟨g + 6, 0, none⟩, 5, [0, -1, 0, 9, 4]⟩, ⟨208, 4, 3, 5, false, some ⟨g + 7, 0, none⟩, 5, [66, 1, 0, 0, 2]⟩] [(512, 128)] ([0, 0, 64, 0, 0, 0, 0, 0, 0, 0, 0, 0, 0, 0, 0, 0].take 16) [(some ⟨g + 10, 0, none⟩, 2, [192, 200]), (none, 0, [])] (nb) [65] (g + 13) [66] (32) (1), good_gen h2 _ _ [0, 0, 64, 0, 0, 0, 0, 0, 0, 0, 0, 0, 0, 0, 0, 0] 16 _ _ _ _ _ _ _ _ rfl ?_ rfl rfl rfl ?_ n2 (h2 13 _ _ rfl) (by kernel_rfl) (by kernel_rfl), h2 14 _ _ rfl, w2, u2⟩
  · intro o ho
    simp only [List.mem_cons, List.not_mem_nil, or_false] at ho
    rcases ho with rfl | rfl | rfl | rfl | rfl | rfl
    · exact ints_of_blk (h2 2 _ _ rfl)
    · exact ints_of_blk (h2 3 _ _ rfl)
    · exact ints_of_blk (h2 4 _ _ rfl)
    · exact ints_of_blk (h2 5 _ _ rfl)
    · exact ints_of_blk (h2 6 _ _ rfl)
    · exact ints_of_blk (h2 7 _ _ rfl)
  · intro l hl
    simp only [List.mem_cons, List.not_mem_nil, or_false] at hl
    rcases hl with rfl | rfl
    · exact ⟨ints_of_blk (h2 10 _ _ rfl), fun h => by cases h⟩
    · exact ⟨.inl rfl, fun _ => ⟨rfl, rfl⟩⟩
theorem sw22 {w0 w : World} {g wb : Nat} (h : Blks w g (LS1 g)) (hw : Blk w wb 3 (ints wants)) (hwb : g + 15 ≤ wb) (hu : Upd [] w0 w) (hg : w0.heap.size ≤ g)  : AtEnd w0 g wb 22 (w.setCell ⟨g + 7, 4, none⟩ (.int .i64 (5))) := by
  have h1 := Blks.set h (j := 7) rfl 4 (.int .i64 (5))
  have w1 := hw.far (p := ⟨g + 7, 4, none⟩) (by simp; omega) (.int .i64 (5))
  have u1 := hu.setCell (p := ⟨g + 7, 4, none⟩) (.inr (by simp; omega)) (.int .i64 (5))
  refine ⟨VG g [⟨64, 1, 1, 1, true, some ⟨g + 2, 0, none⟩, 1, [5]⟩, ⟨66, 3, 0, 1, true, some ⟨g + 3, 0, none⟩, 1, [-7]⟩, ⟨128, 2, 0, 3, false, some ⟨g + 4, 0, none⟩, 3, [64, 0, 128]⟩, ⟨192, 4, 2, 5, false, some ⟨g + 5, 0, none⟩, 5, [0, -1, 200, 3, 1]⟩, ⟨200, 4, 1, 5, false, some ⟨g + 6, 0, none⟩, 5, [0, -1, 0, 9, 4]⟩, ⟨208, 4, 3, 5, false, some ⟨g + 7, 0, none⟩, 5, [66, 1, 0, 0, 5]⟩] [(512, 128)] ([0, 0, 64, 0, 0, 0, 0, 0, 0, 0, 0, 0, 0, 0, 0, 0].take 16) [(some ⟨g + 10, 0, none⟩, 2, [192, 200]), (none, 0, [])] (g + 12) [64] (g + 13) [66] (32) (1), good_gen h1 _ _ [0, 0, 64, 0, 0, 0, 0, 0, 0, 0, 0, 0, 0, 0, 0, 0] 16 _ _ _ _ _ _ _ _ rfl ?_ rfl rfl rfl ?_ (h1 12 _ _ rfl) (h1 13 _ _ rfl) (by kernel_rfl) (by kernel_rfl), h1 14 _ _ rfl, w1, u1⟩
  · intro o ho
    simp only [List.mem_cons, List.not_mem_nil, or_false] at ho
    rcases ho with rfl | rfl | rfl | rfl | rfl | rfl
    · exact ints_of_blk (h1 2 _ _ rfl)
    · exact ints_of_blk (h1 3 _ _ rfl)
    · exact ints_of_blk (h1 4 _ _ rfl)
    · exact ints_of_blk (h1 5 _ _ rfl)
    · exact ints_of_blk (h1 6 _ _ rfl)
    · exact ints_of_blk (h1 7 _ _ rfl)
  · intro l hl
    simp only [List.mem_cons, List.not_mem_nil, or_false] at hl
    rcases hl with rfl | rfl
    · exact ⟨ints_of_blk (h1 10 _ _ rfl), fun h => by cases h⟩
    · exact ⟨.inl rfl, fun _ => ⟨rfl, rfl⟩⟩
theorem sw23 {w0 w : World} {g wb : Nat} (h : Blks w g (LS1 g)) (hw : Blk w wb 3 (ints wants)) (hwb : g + 15 ≤ wb) (hu : Upd [] w0 w) (hg : w0.heap.size ≤ g)  : AtEnd w0 g wb 23 (w.setCell ⟨g + 7, 4, none⟩ (.int .i64 (4))) := by
  have h1 := Blks.set h (j := 7) rfl 4 (.int .i64 (4))
  have w1 := hw.far (p := ⟨g + 7, 4, none⟩) (by simp; omega) (.int .i64 (4))
  have u1 := hu.setCell (p := ⟨g + 7, 4, none⟩) (.inr (by simp; omega)) (.int .i64 (4))
  refine ⟨VG g [⟨64, 1, 1, 1, true, some ⟨g + 2, 0, none⟩, 1, [5]⟩, ⟨66, 3, 0, 1, true, some ⟨g + 3, 0, none⟩, 1, [-7]⟩, ⟨128, 2, 0, 3, false, some ⟨g + 4, 0, none⟩, 3, [64, 0, 128]⟩, ⟨192, 4, 2, 5, false, some ⟨g + 5, 0, none⟩, 5, [0, -1, 200, 3, 1]⟩, ⟨200, 4, 1, 5, false, some ⟨g + 6, 0, none⟩, 5, [0, -1, 0, 9, 4]⟩, ⟨208, 4, 3, 5, false, some ⟨g + 7, 0, none⟩, 5, [66, 1, 0, 0, 4]⟩] [(512, 128)] ([0, 0, 64, 0, 0, 0, 0, 0, 0, 0, 0, 0, 0, 0, 0, 0].take 16) [(some ⟨g + 10, 0, none⟩, 2, [192, 200]), (none, 0, [])] (g + 12) [64] (g + 13) [66] (32) (1), good_gen h1 _ _ [0, 0, 64, 0, 0, 0, 0, 0, 0, 0, 0, 0, 0, 0, 0, 0] 16 _ _ _ _ _ _ _ _ rfl ?_ rfl rfl rfl ?_ (h1 12 _ _ rfl) (h1 13 _ _ rfl) (by kernel_rfl) (by kernel_rfl), h1 14 _ _ rfl, w1, u1⟩
  · intro o ho
    simp only [List.mem_cons, List.not_mem_nil, or_false] at ho
    rcases ho with rfl | rfl | rfl | rfl | rfl | rfl
    · exact ints_of_blk (h1 2 _ _ rfl)
    · exact ints_of_blk (h1 3 _ _ rfl)
    · exact ints_of_blk (h1 4 _ _ rfl)
    · exact ints_of_blk (h1 5 _ _ rfl)
    · exact ints_of_blk (h1 6 _ _ rfl)
    · exact ints_of_blk (h1 7 _ _ rfl)
  · intro l hl
    simp only [List.mem_cons, List.not_mem_nil, or_false] at hl
    rcases hl with rfl | rfl
    · exact ⟨ints_of_blk (h1 10 _ _ rfl), fun h => by cases h⟩
    · exact ⟨.inl rfl, fun _ => ⟨rfl, rfl⟩⟩
theorem sw24 {w0 w : World} {g wb : Nat} (h : Blks w g (LS1 g)) (hw : Blk w wb 3 (ints wants)) (hwb : g + 15 ≤ wb) (hu : Upd [] w0 w) (hg : w0.heap.size ≤ g)  : AtEnd w0 g wb 24 (w.setCell ⟨g + 7, 4, none⟩ (.int .i64 (0))) := by
  have h1 := Blks.set h (j := 7) rfl 4 (.int .i64 (0))
  have w1 := hw.far (p := ⟨g + 7, 4, none⟩) (by simp; omega) (.int .i64 (0))
  have u1 := hu.setCell (p := ⟨g + 7, 4, none⟩) (.inr (by simp; omega)) (.int .i64 (0))
  refine ⟨VG g [⟨64, 1, 1, 1, true, some ⟨g + 2, 0, none⟩, 1, [5]⟩, ⟨66, 3, 0, 1, true, some ⟨g + 3, 0, none⟩, 1, [-7]⟩, ⟨128, 2, 0, 3, false, some ⟨g + 4, 0, none⟩, 3, [64, 0, 128]⟩, ⟨192, 4, 2, 5, false, some ⟨g + 5, 0, none⟩, 5, [0, -1, 200, 3, 1]⟩, ⟨200, 4, 1, 5, false, some ⟨g + 6, 0, none⟩, 5, [0, -1, 0, 9, 4]⟩, ⟨208, 4, 3, 5, false, some ⟨g + 7, 0, none⟩, 5, [66, 1, 0, 0, 0]⟩] [(512, 128)] ([0, 0, 64, 0, 0, 0, 0, 0, 0, 0, 0, 0, 0, 0, 0, 0].take 16) [(some ⟨g + 10, 0, none⟩, 2, [192, 200]), (none, 0, [])] (g + 12) [64] (g + 13) [66] (32) (1), good_gen h1 _ _ [0, 0, 64, 0, 0, 0, 0, 0, 0, 0, 0, 0, 0, 0, 0, 0] 16 _ _ _ _ _ _ _ _ rfl ?_ rfl rfl rfl ?_ (h1 12 _ _ rfl) (h1 13 _ _ rfl) (by kernel_rfl) (by kernel_rfl), h1 14 _ _ rfl, w1, u1⟩
  · intro o ho
    simp only [List.mem_cons, List.not_mem_nil, or_false] at ho
    rcases ho with rfl | rfl | rfl | rfl | rfl | rfl
    · exact ints_of_blk (h1 2 _ _ rfl)
    · exact ints_of_blk (h1 3 _ _ rfl)
    · exact ints_of_blk (h1 4 _ _ rfl)
    · exact ints_of_blk (h1 5 _ _ rfl)
    · exact ints_of_blk (h1 6 _ _ rfl)
    · exact ints_of_blk (h1 7 _ _ rfl)
  · intro l hl
    simp only [List.mem_cons, List.not_mem_nil, or_false] at hl
    rcases hl with rfl | rfl
    · exact ⟨ints_of_blk (h1 10 _ _ rfl), fun h => by cases h⟩
    · exact ⟨.inl rfl, fun _ => ⟨rfl, rfl⟩⟩
theorem sw25 {w0 w : World} {g wb : Nat} (h : Blks w g (LS1 g)) (hw : Blk w wb 3 (ints wants)) (hwb : g + 15 ≤ wb) (hu : Upd [] w0 w) (hg : w0.heap.size ≤ g)  : AtEnd w0 g wb 25 (w.setCell ⟨g + 6, 3, none⟩ (.int .i64 (10))) := by
  have h1 := Blks.set h (j := 6) rfl 3 (.int .i64 (10))
  have w1 := hw.far (p := ⟨g + 6, 3, none⟩) (by simp; omega) (.int .i64 (10))
  have u1 := hu.setCell (p := ⟨g + 6, 3, none⟩) (.inr (by simp; omega)) (.int .i64 (10))
  refine ⟨VG g [⟨64, 1, 1, 1, true, some ⟨g + 2, 0, none⟩, 1, [5]⟩, ⟨66, 3, 0, 1, true, some ⟨g + 3, 0, none⟩, 1, [-7]⟩, ⟨128, 2, 0, 3, false, some ⟨g + 4, 0, none⟩, 3, [64, 0, 128]⟩, ⟨192, 4, 2, 5, false, some ⟨g + 5, 0, none⟩, 5, [0, -1, 200, 3, 1]⟩, ⟨200, 4, 1, 5, false, some ⟨g + 6, 0, none⟩, 5, [0, -1, 0, 10, 4]⟩, ⟨208, 4, 3, 5, false, some ⟨g + 7, 0, none⟩, 5, [66, 1, 0, 0, 2]⟩] [(512, 128)] ([0, 0, 64, 0, 0, 0, 0, 0, 0, 0, 0, 0, 0, 0, 0, 0].take 16) [(some ⟨g + 10, 0, none⟩, 2, [192, 200]), (none, 0, [])] (g + 12) [64] (g + 13) [66] (32) (1), good_gen h1 _ _ [0, 0, 64, 0, 0, 0, 0, 0, 0, 0, 0, 0, 0, 0, 0, 0] 16 _ _ _ _ _ _ _ _ rfl ?_ rfl rfl rfl ?_ (h1 12 _ _ rfl) (h1 13 _ _ rfl) (by kernel_rfl) (by kernel_rfl), h1 14 _ _ rfl, w1, u1⟩
  · intro o ho
    simp only [List.mem_cons, List.not_mem_nil, or_false] at ho
    rcases ho with rfl | rfl | rfl | rfl | rfl | rfl
    · exact ints_of_blk (h1 2 _ _ rfl)
    · exact ints_of_blk (h1 3 _ _ rfl)
    · exact ints_of_blk (h1 4 _ _ rfl)
    · exact ints_of_blk (h1 5 _ _ rfl)
    · exact ints_of_blk (h1 6 _ _ rfl)
    · exact ints_of_blk (h1 7 _ _ rfl)
  · intro l hl
    simp only [List.mem_cons, List.not_mem_nil, or_false] at hl
    rcases hl with rfl | rfl
    · exact ⟨ints_of_blk (h1 10 _ _ rfl), fun h => by cases h⟩
    · exact ⟨.inl rfl, fun _ => ⟨rfl, rfl⟩⟩
theorem sw26 {w0 w : World} {g wb : Nat} (h : Blks w g (LS1 g)) (hw : Blk w wb 3 (ints wants)) (hwb : g + 15 ≤ wb) (hu : Upd [] w0 w) (hg : w0.heap.size ≤ g)  : AtEnd w0 g wb 26 (w.setCell ⟨g + 6, 3, none⟩ (.int .i64 (-1))) := by
  have h1 := Blks.set h (j := 6) rfl 3 (.int .i64 (-1))
  have w1 := hw.far (p := ⟨g + 6, 3, none⟩) (by simp; omega) (.int .i64 (-1))
  have u1 := hu.setCell (p := ⟨g + 6, 3, none⟩) (.inr (by simp; omega)) (.int .i64 (-1))
  refine ⟨VG g [⟨64, 1, 1, 1, true, some ⟨g + 2, 0, none⟩, 1, [5]⟩, ⟨66, 3, 0, 1, true, some ⟨g + 3, 0, none⟩, 1, [-7]⟩, ⟨128, 2, 0, 3, false, some ⟨g + 4, 0, none⟩, 3, [64, 0, 128]⟩, ⟨192, 4, 2, 5, false, some ⟨g + 5, 0, none⟩, 5, [0, -1, 200, 3, 1]⟩, ⟨200, 4, 1, 5, false, some ⟨g + 6, 0, none⟩, 5, [0, -1, 0, -1, 4]⟩, ⟨208, 4, 3, 5, false, some ⟨g + 7, 0, none⟩, 5, [66, 1, 0, 0, 2]⟩] [(512, 128)] ([0, 0, 64, 0, 0, 0, 0, 0, 0, 0, 0, 0, 0, 0, 0, 0].take 16) [(some ⟨g + 10, 0, none⟩, 2, [192, 200]), (none, 0, [])] (g + 12) [64] (g + 13) [66] (32) (1), good_gen h1 _ _ [0, 0, 64, 0, 0, 0, 0, 0, 0, 0, 0, 0, 0, 0, 0, 0] 16 _ _ _ _ _ _ _ _ rfl ?_ rfl rfl rfl ?_ (h1 12 _ _ rfl) (h1 13 _ _ rfl) (by kernel_rfl) (by kernel_rfl), h1 14 _ _ rfl, w1, u1⟩
  · intro o ho
    simp only [List.mem_cons, List.not_mem_nil, or_false] at ho
    rcases ho with rfl | rfl | rfl | rfl | rfl | rfl
    · exact ints_of_blk (h1 2 _ _ rfl)
    · exact ints_of_blk (h1 3 _ _ rfl)
    · exact ints_of_blk (h1 4 _ _ rfl)
    · exact ints_of_blk (h1 5 _ _ rfl)
    · exact ints_of_blk (h1 6 _ _ rfl)
    · exact ints_of_blk (h1 7 _ _ rfl)
  · intro l hl
    simp only [List.mem_cons, List.not_mem_nil, or_false] at hl
    rcases hl with rfl | rfl
    · exact ⟨ints_of_blk (h1 10 _ _ rfl), fun h => by cases h⟩
    · exact ⟨.inl rfl, fun _ => ⟨rfl, rfl⟩⟩
theorem sw27 {w0 w : World} {g wb : Nat} (h : Blks w g (LS1 g)) (hw : Blk w wb 3 (ints wants)) (hwb : g + 15 ≤ wb) (hu : Upd [] w0 w) (hg : w0.heap.size ≤ g)  : AtEnd w0 g wb 27 (w.setCell ⟨g + 14, 9, none⟩ (.int .i64 (-1))) := by
  have h1 := Blks.set h (j := 14) rfl 9 (.int .i64 (-1))
  have w1 := hw.far (p := ⟨g + 14, 9, none⟩) (by simp; omega) (.int .i64 (-1))
  have u1 := hu.setCell (p := ⟨g + 14, 9, none⟩) (.inr (by simp; omega)) (.int .i64 (-1))
  refine ⟨VG g [⟨64, 1, 1, 1, true, some ⟨g + 2, 0, none⟩, 1, [5]⟩, ⟨66, 3, 0, 1, true, some ⟨g + 3, 0, none⟩, 1, [-7]⟩, ⟨128, 2, 0, 3, false, some ⟨g + 4, 0, none⟩, 3, [64, 0, 128]⟩, ⟨192, 4, 2, 5, false, some ⟨g + 5, 0, none⟩, 5, [0, -1, 200, 3, 1]⟩, ⟨200, 4, 1, 5, false, some ⟨g + 6, 0, none⟩, 5, [0, -1, 0, 9, 4]⟩, ⟨208, 4, 3, 5, false, some ⟨g + 7, 0, none⟩, 5, [66, 1, 0, 0, 2]⟩] [(512, 128)] ([0, 0, 64, 0, 0, 0, 0, 0, 0, 0, 0, 0, 0, 0, 0, 0].take 16) [(some ⟨g + 10, 0, none⟩, 2, [192, 200]), (none, 0, [])] (g + 12) [64] (g + 13) [66] (32) (-1), good_gen h1 _ _ [0, 0, 64, 0, 0, 0, 0, 0, 0, 0, 0, 0, 0, 0, 0, 0] 16 _ _ _ _ _ _ _ _ rfl ?_ rfl rfl rfl ?_ (h1 12 _ _ rfl) (h1 13 _ _ rfl) (by kernel_rfl) (by kernel_rfl), h1 14 _ _ rfl, w1, u1⟩
  · intro o ho
    simp only [List.mem_cons, List.not_mem_nil, or_false] at ho
    rcases ho with rfl | rfl | rfl | rfl | rfl | rfl
    · exact ints_of_blk (h1 2 _ _ rfl)
    · exact ints_of_blk (h1 3 _ _ rfl)
    · exact ints_of_blk (h1 4 _ _ rfl)
    · exact ints_of_blk (h1 5 _ _ rfl)
    · exact ints_of_blk (h1 6 _ _ rfl)
    · exact ints_of_blk (h1 7 _ _ rfl)
  · intro l hl
    simp only [List.mem_cons, List.not_mem_nil, or_false] at hl
    rcases hl with rfl | rfl
    · exact ⟨ints_of_blk (h1 10 _ _ rfl), fun h => by cases h⟩
    · exact ⟨.inl rfl, fun _ => ⟨rfl, rfl⟩⟩
end Go.Proofs.Ytnhgmmjlhhgdoaa
