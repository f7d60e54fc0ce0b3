/- The document's heap of objects: NewHeap and Make. -/
import Derived.Test.YtpkbdmieelgdlaaGreatDh3
import Derived.Test.YtpkbdmieelgdlaaGreatMkAny
import Derived.Test.YtpkbdmieelgdlaaGreatDoc2
import Derived.Deep.RegionHeld3
namespace Go.Proofs.YtpkbdmieelgdlaaGreat
open Go Go.RowKit

theorem dheap_new (n : Nat) (w : World) (h1 : 1 ≤ n) (h2 : n ≤ 256) : Calls Tryz.prog 7 #[.int .i64 n] w fun e w' =>
    ∃ h O, e = .returned (.pointer (some ⟨h, 0, none⟩)) ∧ HeapD w' h (newSp n).pg [] F00 O ∧ (∀ k, O k → w.heap.size ≤ k) ∧ Upd [] w w' := by
  have HN := Lib.hid (fun W => doc_new n W h1 h2)
  have HOB := Lib.hid (Objs.new h1 F00)
  go_enter Tryz.func7, Tryz.ntmps7
  go_wp2_with fail
  refine (HN.out _).mono ?_
  rintro e w1 ⟨m, Os, rfl, hd, ho, hu⟩
  have HD := Lib.hid hd
  have HO := Lib.hid ho
  have HU := Lib.hid hu
  clear hd ho hu
  go_wp2_with fail
  go_ret
  have hu2 : Upd [] w1 (w1.alloc (.cells #[.pointer (some ⟨m, 0, none⟩), .slice none 0 0] 93)) := (Upd.refl [] w1).alloc _
  have hsz := HU.out.size
  refine ⟨w1.heap.size, _, rfl, ⟨m, newSp n, Os, ⟨Blk.new _ _ _, HD.out.upd0 hu2, HOB.out, fun hx => ?_⟩, rfl, rfl⟩, fun k hk => ?_, HU.out.trans hu2⟩
  · have := HD.out.owned hx; omega
  · rcases hk with hk | rfl
    · exact HO.out k hk
    · exact hsz

section
variable {w w' : World} {h m : Nat} {np : List Pst} {l : List Int} {F : Int → Ob} {O Os : Nat → Prop}
theorem dmay (h : Nat) (k c n : Int) (w : World) (hm : mayB k c n false = true) (hk : k ≠ 1) : Calls Tryz.prog 53 #[.pointer (some ⟨h, 0, none⟩), .agg #[.int .i64 k, .int .i64 c, .int .i64 n, .bool false]] w fun e w' => e = .returned (.int .i64 0) ∧ Upd [] w w' := by
  have HM := Lib.hid hm
  clear hm
  go_enter Tryz.func53, Tryz.ntmps53
  go_wp2_with fail
  have hq := fun W => mayhead_walk k c n false W
  rw [HM.out] at hq
  refine (hq _).mono ?_
  clear hq
  rintro e w1 ⟨rfl, hb⟩
  obtain ⟨x0, x1, x2, x3⟩ := head_cells ((Blk.new w 37 #[.int .i64 k, .int .i64 c, .int .i64 n, .bool false]).below hb (by simp))
  have HB := Lib.hid hb
  clear hb
  go_wp2_with fail
  go_ret
  exact ⟨rfl, ((Upd.refl [] w).alloc _).trans (Upd.of_below HB.out)⟩
/-- The answer of the document's Alloc, within Make, in a block g; the head lies at q, the result behind it. -/
structure MkAt (w0 w : World) (h m g q : Nat) (S1 : Sp) (Os : Nat → Prop) (k c n a r : Int) : Prop where
  ans : Blk w g 34 #[.int .i64 a, .int .i64 r]
  res : Blk w (q + 1) 34 #[.int .i64 0, .int .i64 0]
  hd : Blk w q 37 #[.int .i64 k, .int .i64 c, .int .i64 n, .bool false]
  box : Blk w h 93 #[.pointer (some ⟨m, 0, none⟩), .slice none 0 0]
  doc : ∃ O1, DocO w m S1 O1 ∧ StepO Os w0 O1 w ∧ ¬ O1 (q + 1) ∧ ¬ O1 g ∧ ¬ O1 q
set_option maxHeartbeats 1600000 in
set_option maxRecDepth 100000 in
theorem dmake (h : Nat) (np : List Pst) (k c : Int) (n : Nat) (w : World) (H : HeapD w h np l F O) (hm : mayB k c n false = true) (hk : k ≠ 1) (hn : n ≤ 31) :
    Calls Tryz.prog 8 #[.pointer (some ⟨h, 0, none⟩), .agg #[.int .i64 k, .int .i64 c, .int .i64 n, .bool false]] w fun e w' =>
      ∃ a r pg l' F' O', MadeAs np l F ⟨k, c, false, List.replicate n 0⟩ pg l' F' a r ∧ e = .returned (.agg #[.int .i64 a, .int .i64 r]) ∧ HeapD w' h pg l' F' O' ∧ StepO O w O' w' := by
  obtain ⟨m, S, Os, H, hnp, rfl⟩ := H
  subst hnp
  have hda := fun W (hu : Upd [] w W) => doc_alloc m S ((n : Int) + 1) W (H.upd0 hu).space
  have HWR : Hid (IntKind.i64.wrap ((n : Int) + 1) = n + 1) := Lib.hid (IntWalk.i64_in _ (by omega))
  have HM := Lib.hid hm
  have HH := Lib.hid H
  obtain ⟨S1, a, r, hal, hcs⟩ : ∃ S1 a r, S.alloc ((n : Int) + 1) = (S1, a, r) ∧ ((r = 3 ∧ a = 0 ∧ S1 = S ∧ MadeAs S.pg l F ⟨k, c, false, List.replicate n 0⟩ S.pg l F 0 3) ∨
      (r = 0 ∧ ∃ p : Nat, a = p ∧ 64 ≤ p ∧ p < S1.W.length ∧ Objs ⟨S1.W.set p (putZ k c n false), S1.pg⟩ (l ++ [a]) (fset F a ⟨k, c, false, List.replicate n 0⟩) ∧ MadeAs S.pg l F ⟨k, c, false, List.replicate n 0⟩ S1.pg (l ++ [a]) (fset F a ⟨k, c, false, List.replicate n 0⟩) a 0)) := by
    rcases H.objs.make_any H.space.wf (o := ⟨k, c, false, List.replicate n 0⟩) (n := n) (by simpa [Ob.may] using hm) rfl hn with ⟨h1, h2⟩ | ⟨S1, a, h1, h2, h3, h4, h5⟩
    · exact ⟨S, 0, 3, h1, .inl ⟨rfl, rfl, rfl, h2⟩⟩
    · refine ⟨S1, a, 0, h1, .inr ⟨rfl, a.toNat, by omega, by omega, by omega, ?_, h5⟩⟩
      have hword : Ob.word ⟨k, c, false, List.replicate n 0⟩ = putZ k c n false := by simp [Ob.word]
      rwa [hword] at h4
  rw [hal] at hda
  have HDA := Lib.hid hda
  have HCS := Lib.hid hcs
  clear hda hm H hal hcs
  have HX : Hid (Blk (w.alloc (.cells #[.int .i64 k, .int .i64 c, .int .i64 n, .bool false] 37)) w.heap.size 37 #[.int .i64 k, .int .i64 c, .int .i64 n, .bool false]) := Lib.hid (Blk.new _ _ _)
  have HY : Hid (Blk ((w.alloc (.cells #[.int .i64 k, .int .i64 c, .int .i64 n, .bool false] 37)).alloc (.cells #[.int .i64 0, .int .i64 0] 34)) (w.heap.size + 1) 34 #[.int .i64 0, .int .i64 0]) := Lib.hid (Blk.newAt _ _ _ _ (by simp))
  have HUA : Hid (Upd [] w ((w.alloc (.cells #[.int .i64 k, .int .i64 c, .int .i64 n, .bool false] 37)).alloc (.cells #[.int .i64 0, .int .i64 0] 34))) := Lib.hid (((Upd.refl [] w).alloc _).alloc _)
  go_enter Tryz.func8, Tryz.ntmps8
  go_wp2_with fail
  refine (dmay h k c n _ HM.out hk).mono ?_
  rintro e w1 ⟨rfl, hu⟩
  have HU := Lib.hid (HUA.out.trans hu)
  have HX1 := Lib.hid (((HX.out.alloc (.cells #[.int .i64 0, .int .i64 0] 34)).upd hu (by simp)))
  have HY1 := Lib.hid (HY.out.upd hu (by simp))
  have HH1 := Lib.hid (HH.out.upd0 HU.out)
  obtain ⟨c0, c1⟩ := HH1.out.cells
  obtain ⟨x0, x1, x2, x3⟩ := head_cells HX1.out
  obtain ⟨f0, _⟩ := (HH1.out.upd0 ((Upd.refl [] w1).drew.alloc (.cells #[.int .i64 0, .int .i64 0] 34))).cells
  obtain ⟨y0, y1, y2, y3⟩ := head_cells (HX1.out.drew.alloc (.cells #[.int .i64 0, .int .i64 0] 34))
  have HFAR : Hid (¬ Os w.heap.size ∧ ¬ Os (w.heap.size + 1) ∧ ¬ Os w1.heap.size) := Lib.hid ⟨fun e => by have := HH.out.space.owned e; omega, fun e => by have := HH.out.space.owned e; omega, fun e => by have := HH.out.space.owned e; have := HU.out.size; omega⟩
  clear hu
  go_upto_region 4 with fail
  go_cut [6] (fun v wx => ∃ g, v = .pointer (some ⟨g, 0, none⟩) ∧ Hid (MkAt w wx h m g w.heap.size S1 Os k c n a r))
  case first =>
    go_region_held3 (fun w' => w'.cell? ⟨h, 0, none⟩ = some (.pointer (some ⟨m, 0, none⟩)) ∧ w'.cell? ⟨w.heap.size, 2, none⟩ = some (.int .i64 n)) (first | exact ⟨c0, x2⟩ | exact ⟨f0, y2⟩ | exact ⟨e0, e2⟩ | exact ⟨g0, g2⟩ | exact ⟨g4, g5⟩)
      (first
        | (go_at_call 54; rw [HWR.out]; refine (HDA.out _ HU.out.drew).mono ?_; rintro e w2 ⟨rfl, O2, hd2, hs2⟩
           have HB2 : Hid (Blk w2 h 93 #[.pointer (some ⟨m, 0, none⟩), .slice none 0 0]) := Lib.hid (HH1.out.box.moved (hs2.block h HH1.out.box.lt HH1.out.sep))
           have HX2 : Hid (Blk w2 w.heap.size 37 #[.int .i64 k, .int .i64 c, .int .i64 n, .bool false]) := Lib.hid (HX1.out.moved (hs2.block _ HX1.out.lt HFAR.out.1))
           have HY2 : Hid (Blk w2 (w.heap.size + 1) 34 #[.int .i64 0, .int .i64 0]) := Lib.hid (HY1.out.moved (hs2.block _ HY1.out.lt HFAR.out.2.1))
           have HZ2 : Hid (Blk (w2.alloc (.cells #[.int .i64 0, .int .i64 0] 34)) w2.heap.size 34 #[.int .i64 0, .int .i64 0]) := Lib.hid (Blk.new _ _ _)
           have e0 : w2.cell? ⟨h, 0, none⟩ = some (.pointer (some ⟨m, 0, none⟩)) := HB2.out.cell 0
           have e2 : w2.cell? ⟨w.heap.size, 2, none⟩ = some (.int .i64 n) := HX2.out.cell 2
           have g0 : (w2.alloc (.cells #[.int .i64 0, .int .i64 0] 34)).cell? ⟨h, 0, none⟩ = some (.pointer (some ⟨m, 0, none⟩)) := (HB2.out.alloc _).cell 0
           have g2 : (w2.alloc (.cells #[.int .i64 0, .int .i64 0] 34)).cell? ⟨w.heap.size, 2, none⟩ = some (.int .i64 n) := (HX2.out.alloc _).cell 2
           have g4 : (w2.alloc (.cells #[.int .i64 a, .int .i64 r] 34)).cell? ⟨h, 0, none⟩ = some (.pointer (some ⟨m, 0, none⟩)) := (HB2.out.alloc _).cell 0
           have g5 : (w2.alloc (.cells #[.int .i64 a, .int .i64 r] 34)).cell? ⟨w.heap.size, 2, none⟩ = some (.int .i64 n) := (HX2.out.alloc _).cell 2
           have z0 : (w2.alloc (.cells #[.int .i64 0, .int .i64 0] 34)).cell? ⟨w2.heap.size, 0, none⟩ = some (.int .i64 0) := HZ2.out.cell 0
           have z1 : (w2.alloc (.cells #[.int .i64 0, .int .i64 0] 34)).cell? ⟨w2.heap.size, 1, none⟩ = some (.int .i64 0) := HZ2.out.cell 1
           have z2 := HZ2.out.frozen 0
           have z3 := HZ2.out.frozen 1
           have HD2 : Hid (∃ O1, DocO w2 m S1 O1 ∧ StepO Os w O1 w2 ∧ ¬ O1 (w.heap.size + 1) ∧ ¬ O1 w.heap.size) := Lib.hid ⟨O2, hd2, StepO.behind HU.out.drew hs2, fun e => (hs2.own _ e).elim HFAR.out.2.1 (fun e => by have := HY1.out.lt; simp at e; omega), fun e => (hs2.own _ e).elim HFAR.out.1 (fun e => by have := HY1.out.lt; simp at e; omega)⟩
           clear hd2 hs2)
        | (go_at_call 54; rw [HWR.out]; refine (HDA.out _ (HU.out.drew.alloc _)).mono ?_; rintro e w2 ⟨rfl, O2, hd2, hs2⟩
           have HB2 : Hid (Blk w2 h 93 #[.pointer (some ⟨m, 0, none⟩), .slice none 0 0]) := Lib.hid ((HH1.out.box.drew.alloc (.cells #[.int .i64 0, .int .i64 0] 34)).moved (hs2.block h (Nat.lt_of_lt_of_le HH1.out.box.lt (by simp)) HH1.out.sep))
           have HX2 : Hid (Blk w2 w.heap.size 37 #[.int .i64 k, .int .i64 c, .int .i64 n, .bool false]) := Lib.hid ((HX1.out.drew.alloc (.cells #[.int .i64 0, .int .i64 0] 34)).moved (hs2.block _ (Nat.lt_of_lt_of_le HX1.out.lt (by simp)) HFAR.out.1))
           have HY2 : Hid (Blk w2 (w.heap.size + 1) 34 #[.int .i64 0, .int .i64 0]) := Lib.hid ((HY1.out.drew.alloc (.cells #[.int .i64 0, .int .i64 0] 34)).moved (hs2.block _ (Nat.lt_of_lt_of_le HY1.out.lt (by simp)) HFAR.out.2.1))
           have HZ2 : Hid (Blk w2 w1.heap.size 34 #[.int .i64 0, .int .i64 0]) := Lib.hid ((Blk.new w1.drew 34 #[.int .i64 0, .int .i64 0]).moved (hs2.block _ (by simp) HFAR.out.2.2))
           have e0 : w2.cell? ⟨h, 0, none⟩ = some (.pointer (some ⟨m, 0, none⟩)) := HB2.out.cell 0
           have e2 : w2.cell? ⟨w.heap.size, 2, none⟩ = some (.int .i64 n) := HX2.out.cell 2
           have HR2 : Hid (Blk ((w2.setCell ⟨w1.heap.size, 0, none⟩ (.int .i64 a)).setCell ⟨w1.heap.size, 1, none⟩ (.int .i64 r)) h 93 #[.pointer (some ⟨m, 0, none⟩), .slice none 0 0]) := Lib.hid ((HB2.out.far (HB2.out.ne_ HZ2.out (by decide)) _).far (HB2.out.ne_ HZ2.out (by decide)) _)
           have HR3 : Hid (Blk ((w2.setCell ⟨w1.heap.size, 0, none⟩ (.int .i64 a)).setCell ⟨w1.heap.size, 1, none⟩ (.int .i64 r)) w.heap.size 37 #[.int .i64 k, .int .i64 c, .int .i64 n, .bool false]) := Lib.hid ((HX2.out.far (HX2.out.ne_ HZ2.out (by decide)) _).far (HX2.out.ne_ HZ2.out (by decide)) _)
           have g0 := HR2.out.cell 0
           have g2 := HR3.out.cell 2
           simp only [List.getElem?_toArray, List.getElem?_cons_zero, List.getElem?_cons_succ] at g0 g2
           have z0 : w2.cell? ⟨w1.heap.size, 0, none⟩ = some (.int .i64 0) := HZ2.out.cell 0
           have z1 : w2.cell? ⟨w1.heap.size, 1, none⟩ = some (.int .i64 0) := HZ2.out.cell 1
           have z2 := HZ2.out.frozen 0
           have z3 := HZ2.out.frozen 1
           have HD2 : Hid (∃ O1, DocO w2 m S1 O1 ∧ StepO Os w O1 w2 ∧ ¬ O1 (w.heap.size + 1) ∧ ¬ O1 w.heap.size ∧ ¬ O1 w1.heap.size) := Lib.hid ⟨O2, hd2, StepO.behind (HU.out.drew.alloc _) hs2, fun e => (hs2.own _ e).elim HFAR.out.2.1 (fun e => by have := HY1.out.lt; simp at e; omega), fun e => (hs2.own _ e).elim HFAR.out.1 (fun e => by have := HY1.out.lt; simp at e; omega), fun e => (hs2.own _ e).elim HFAR.out.2.2 (fun e => by simp at e; omega)⟩
           clear hd2 hs2))
    · go_wp2_with fail
      go_meet
      obtain ⟨O1, hd2, hs2, hn1, hn0⟩ := HD2.out
      exact ⟨_, rfl, Lib.hid ⟨Blk.new _ _ _, HY2.out.alloc _, HX2.out.alloc _, HB2.out.alloc _, O1, hd2.upd0 ((Upd.refl [] w2).alloc _), hs2.then ((Upd.refl [] w2).alloc _), hn1, fun e => by have := hd2.owned e; omega, hn0⟩⟩
    · go_wp2_with fail
      go_meet
      obtain ⟨O1, hd2, hs2, hn1, hn0, hn⟩ := HD2.out
      have hy := HY1.out.lt
      have hz := HZ2.out.lt
      have hu2 : ∀ k, O1 k → ((w2.setCell ⟨w1.heap.size, 0, none⟩ (.int .i64 a)).setCell ⟨w1.heap.size, 1, none⟩ (.int .i64 r)).heap[k]? = w2.heap[k]? := fun k hk => (Below.heap_setCell _ _ _ _ (fun e => hn (by have e2 : k = w1.heap.size := e; rw [← e2]; exact hk))).trans (Below.heap_setCell _ _ _ _ (fun e => hn (by have e2 : k = w1.heap.size := e; rw [← e2]; exact hk)))
      exact ⟨_, rfl, Lib.hid ⟨(HZ2.out.set_ 0 _).set_ 1 _, (HY2.out.far (show w.heap.size + 1 ≠ w1.heap.size from by omega) _).far (show w.heap.size + 1 ≠ w1.heap.size from by omega) _, HR3.out, HR2.out, O1, hd2.moved hu2, (hs2.newCell (by have := HU.out.size; exact this) _).newCell (by have := HU.out.size; exact this) _, hn1, hn, hn0⟩⟩
  case rest =>
    obtain ⟨g, rfl, HK⟩ := hcut
    clear HX HY HUA HX1 HY1 HH1 HU c0 c1 x0 x1 x2 x3 f0 y0 y1 y2 y3 HFAR HDA HWR
    have z0 := HK.out.ans.cell 0
    have z1 := HK.out.ans.cell 1
    have z2 := HK.out.res.cell 0
    have z3 := HK.out.res.cell 1
    have z4 := HK.out.res.frozen 0
    have z5 := HK.out.res.frozen 1
    simp only [List.getElem?_toArray, List.getElem?_cons_zero, List.getElem?_cons_succ] at z0 z1 z2 z3
    have hfin : ∀ (W : World) (S2 : Sp) (l' : List Int) (F' : Int → Ob) (O1 : Nat → Prop) (u v : Value), DocO W m S2 O1 → StepO Os w O1 W → ¬ O1 (w.heap.size + 1) → Objs S2 l' F' →
        HeapD ((W.setCell ⟨w.heap.size + 1, 0, none⟩ u).setCell ⟨w.heap.size + 1, 1, none⟩ v) h S2.pg l' F' (OwnsHD h O1) ∧ StepO (OwnsHD h Os) w (OwnsHD h O1) ((W.setCell ⟨w.heap.size + 1, 0, none⟩ u).setCell ⟨w.heap.size + 1, 1, none⟩ v) := fun W S2 l' F' O1 u v hd hs hn ho => by
      have e := HH.out.after (hd.moved fun k hk => (Below.heap_setCell _ _ _ _ (fun e => hn (by have e2 : k = w.heap.size + 1 := e; rw [← e2]; exact hk))).trans (Below.heap_setCell _ _ _ _ (fun e => hn (by have e2 : k = w.heap.size + 1 := e; rw [← e2]; exact hk))))
        ((hs.newCell (p := ⟨w.heap.size + 1, 0, none⟩) (Nat.le_succ _) u).newCell (p := ⟨w.heap.size + 1, 1, none⟩) (Nat.le_succ _) v) ho
      exact ⟨⟨m, S2, O1, e.1, rfl, rfl⟩, e.2⟩
    have HFIN := Lib.hid hfin
    clear hfin
    rcases HCS.out with ⟨rfl, rfl, rfl, hma⟩ | ⟨rfl, p, rfl, hp1, hp2, hob, hma⟩
    · have HMA := Lib.hid hma
      clear HCS hma
      go_wp2_with fail
      obtain ⟨O1, hd, hs, hn1, hn2, hn3⟩ := HK.out.doc
      obtain ⟨e1, e2⟩ := HFIN.out wc S1 l F O1 (.int .i64 0) (.int .i64 3) hd hs hn1 HH.out.objs
      exact cell_ret rfl ((HK.out.res.set_ 0 _).set_ 1 _) rfl rfl Tryz.underlying34 (by kernel_rfl) ⟨0, 3, _, _, _, _, HMA.out, rfl, e1, e2⟩
    · have HMA := Lib.hid hma
      have HOB := Lib.hid hob
      obtain ⟨O1, hd, hs, hn1, hn2, hn3⟩ := HK.out.doc
      obtain ⟨gw, hgw, hw1, hw2⟩ := hd.wordAt hp2 (putZ k c n false)
      have HD := Lib.hid hd
      have HS := Lib.hid hs
      have HW1 := Lib.hid hw1
      have HW2 := Lib.hid hw2
      have HN := Lib.hid (And.intro hn1 hn2)
      have HNE : Hid (h ≠ gw ∧ m ≠ gw ∧ g ≠ gw ∧ w.heap.size ≠ gw ∧ w.heap.size + 1 ≠ gw) := Lib.hid ⟨fun e => (hs.own _ (e ▸ hgw.2)).elim HH.out.sep (fun e2 => by have := HH.out.box.lt; omega), hgw.1, fun e => hn2 (e ▸ hgw.2), fun e => hn3 (e ▸ hgw.2), fun e => hn1 (e ▸ hgw.2)⟩
      have hNN : p < S1.W.length := hp2
      generalize S1.W.getD p 0 = y at *
      obtain ⟨N, hN⟩ : ∃ N, S1.W.length = N := ⟨_, rfl⟩
      rw [hN] at hNN HW1
      obtain ⟨d0, d1, d2⟩ := HW1.out _ (Upd.refl [] wc)
      have c0 : wc.cell? ⟨h, 0, none⟩ = some (.pointer (some ⟨m, 0, none⟩)) := HK.out.box.cell 0
      obtain ⟨x0, x1, x2, x3⟩ := head_cells HK.out.hd
      clear HCS hma hob hd hs hw1 hw2 hn1 hn2 hn3 hgw hN
      go_upto_region 6 with fail
      go_region_held3 (fun w' => w'.cell? ⟨h, 0, none⟩ = some (.pointer (some ⟨m, 0, none⟩)) ∧ w'.cell? ⟨m, 0, none⟩ = some (.slice (some ⟨gw, 0, none⟩) N N) ∧ w'.cell? ⟨g, 0, none⟩ = some (.int .i64 p) ∧
          w'.cell? ⟨w.heap.size, 0, none⟩ = some (.int .i64 k) ∧ w'.cell? ⟨w.heap.size, 1, none⟩ = some (.int .i64 c) ∧ w'.cell? ⟨w.heap.size, 2, none⟩ = some (.int .i64 n) ∧ w'.cell? ⟨w.heap.size, 3, none⟩ = some (.bool false))
        (first | exact ⟨c0, d0, z0, x0, x1, x2, x3⟩ | exact ⟨e0, e1, e2, y0, y1, y2, y3⟩ | exact ⟨g0, g1, g2, g3, g4, g5, g6⟩)
        (first
          | (go_at_call 55; refine (doc_put k c n false _ HM.out).mono ?_; rintro e w4 ⟨rfl, hu⟩
             have HU4 : Hid (Upd [] wc w4) := Lib.hid ((Upd.refl [] wc).drew.trans hu)
             have e0 : w4.cell? ⟨h, 0, none⟩ = some (.pointer (some ⟨m, 0, none⟩)) := (HK.out.box.upd HU4.out (by simp)).cell 0
             obtain ⟨e1, e3, e4⟩ := HW1.out _ HU4.out
             have e2 : w4.cell? ⟨g, 0, none⟩ = some (.int .i64 p) := (HK.out.ans.upd HU4.out (by simp)).cell 0
             obtain ⟨y0, y1, y2, y3⟩ := head_cells (HK.out.hd.upd HU4.out (by simp))
             have g0 : (w4.setCell ⟨gw, p, none⟩ (.int .i64 (putZ k c n false))).cell? ⟨h, 0, none⟩ = some (.pointer (some ⟨m, 0, none⟩)) := ((HK.out.box.upd HU4.out (by simp)).far HNE.out.1 _).cell 0
             have g1 : (w4.setCell ⟨gw, p, none⟩ (.int .i64 (putZ k c n false))).cell? ⟨m, 0, none⟩ = some (.slice (some ⟨gw, 0, none⟩) N N) := (World.cell?_setCell_other _ _ _ _ (fun e => HNE.out.2.1 (by injection e with e; exact e.symm))).trans e1
             have g2 : (w4.setCell ⟨gw, p, none⟩ (.int .i64 (putZ k c n false))).cell? ⟨g, 0, none⟩ = some (.int .i64 p) := ((HK.out.ans.upd HU4.out (by simp)).far HNE.out.2.2.1 _).cell 0
             obtain ⟨g3, g4, g5, g6⟩ := head_cells ((HK.out.hd.upd HU4.out (by simp)).far (p := ⟨gw, p, none⟩) HNE.out.2.2.2.1 (.int .i64 (putZ k c n false)))
             clear hu))
      all_goals
        have ha := (HK.out.ans.upd HU4.out (by simp)).far (p := ⟨gw, p, none⟩) HNE.out.2.2.1 (.int .i64 (putZ k c n false))
        have hr := (HK.out.res.upd HU4.out (by simp)).far (p := ⟨gw, p, none⟩) HNE.out.2.2.2.2 (.int .i64 (putZ k c n false))
        obtain ⟨hd5, hs5⟩ := HW2.out _ HU4.out
        have hs6 := HS.out.trans hs5
        clear c0 d0 d1 d2 x0 x1 x2 x3 e0 e1 e2 e3 e4 y0 y1 y2 y3 g0 g1 g2 g3 g4 g5 g6 z0 z1 z2 z3 z4 z5 hs5
        generalize w4.setCell ⟨gw, p, none⟩ (.int .i64 (putZ k c n false)) = w5 at *
        have z0 := ha.cell 0
        have z1 := ha.cell 1
        have z2 := hr.cell 0
        have z3 := hr.cell 1
        have z4 := hr.frozen 0
        have z5 := hr.frozen 1
        simp only [List.getElem?_toArray, List.getElem?_cons_zero, List.getElem?_cons_succ] at z0 z1 z2 z3
        have HR5 := Lib.hid hr
        have HD5 := Lib.hid hd5
        have HS5 := Lib.hid hs6
        clear ha hr hd5 hs6
        go_wp2_with fail
        obtain ⟨e1, e2⟩ := HFIN.out w5 _ _ _ O1 (.int .i64 p) (.int .i64 0) HD5.out HS5.out HN.out.1 HOB.out
        exact cell_ret rfl ((HR5.out.set_ 0 _).set_ 1 _) rfl rfl Tryz.underlying34 (by kernel_rfl) ⟨p, 0, _, _, _, _, HMA.out, rfl, e1, e2⟩
end
end Go.Proofs.YtpkbdmieelgdlaaGreat
