/- The contracts of an object's fields, and of its finalizer's mark. -/
import Derived.Test.YtpkbdmieelgdlaaGreatObj3P
import Derived.Test.YtpkbdmieelgdlaaGreatLinks
namespace Go.Proofs.YtpkbdmieelgdlaaGreat
open Go Go.RowKit

section
variable {O : Nat → Prop} {l : List Int} {F : Int → Ob}
theorem HeapO.pos {w : World} {h : Nat} {np : List Pst} (H : HeapO w h np l F O) {a : Int} (ha : a ∈ l) : 64 ≤ a ∧ a + (F a).ws.length + 1 ≤ 16384 ∧ (F a).ws.length ≤ 1023 := by
  obtain ⟨t, s, L, S, H, _, rfl⟩ := H
  obtain ⟨m, hm, hst⟩ := H.objs.ob a ha
  have fb := find_block H.space.wf hm
  have hr := hst.room
  have hl := H.space.len
  have := hst.small
  omega
theorem HeapO.nodup {w : World} {h : Nat} {np : List Pst} (H : HeapO w h np l F O) : l.Nodup := by
  obtain ⟨t, s, L, S, H, _, rfl⟩ := H
  exact H.objs.nodup
theorem HeapO.may {w : World} {h : Nat} {np : List Pst} (H : HeapO w h np l F O) {a : Int} (ha : a ∈ l) : mayB (F a).k (F a).c (F a).ws.length (F a).f = true := by
  obtain ⟨t, s, L, S, H, _, rfl⟩ := H
  obtain ⟨m, hm, hst⟩ := H.objs.ob a ha
  exact hst.may

theorem field_no (h : Nat) (np : List Pst) (a i : Int) (w : World) (H : HeapO w h np l F O) (ha : a ∉ l) : Calls Tryz.prog 96 #[.pointer (some ⟨h, 0, none⟩), .int .i64 a, .int .i64 i] w fun e w' =>
    e = .returned (.tuple #[.int .i64 0, .int .i64 2]) ∧ Upd [] w w' := by
  have hq := head_no h np a w H ha
  have HQ := Lib.hid hq
  clear hq H ha
  go_enter Tryz.func96, Tryz.ntmps96
  go_wp2_with fail
  refine (HQ.out).mono ?_
  rintro e w1 ⟨rfl, hu⟩
  have HU := Lib.hid hu
  clear hu
  go_wp2_with fail
  go_ret2
  exact ⟨rfl, HU.out.alloc _⟩
theorem field_yes (h : Nat) (np : List Pst) (a i : Int) (j : Nat) (w : World) (H : HeapO w h np l F O) (ha : a ∈ l) (hi : i = j) (hj : j < (F a).ws.length) : Calls Tryz.prog 96 #[.pointer (some ⟨h, 0, none⟩), .int .i64 a, .int .i64 i] w fun e w' =>
    e = .returned (.tuple #[.int .i64 (a + 1 + j), .int .i64 0]) ∧ Upd [] w w' := by
  subst hi
  have hq := head_yes h np a (F a).k (F a).c (F a).ws.length (F a).f w H ha rfl
  have hb := H.pos ha
  generalize (F a).k = k at *
  generalize (F a).c = c at *
  generalize (F a).f = f at *
  generalize (F a).ws.length = n at *
  have HQ := Lib.hid hq
  clear hq H ha
  go_enter Tryz.func96, Tryz.ntmps96
  go_wp2_with fail
  refine (HQ.out).mono ?_
  rintro e w1 ⟨rfl, hu⟩
  have HU := Lib.hid hu
  clear hu
  go_wp2_with fail
  go_ret2
  exact ⟨rfl, HU.out.alloc _⟩

theorem get_yes (h : Nat) (np : List Pst) (a i : Int) (j : Nat) (x : Int) (w : World) (H : HeapO w h np l F O) (ha : a ∈ l) (hi : i = j) (hj : j < (F a).ws.length) (hx : (F a).ws.getD j 0 = x) : Calls Tryz.prog 64 #[.pointer (some ⟨h, 0, none⟩), .int .i64 a, .int .i64 i] w fun e w' =>
    e = .returned (.tuple #[.int .i64 x, .int .i64 0]) ∧ Upd [] w w' := by
  have hq := field_yes h np a i j w H ha hi hj
  have hb := H.pos ha
  obtain ⟨t, s, L, S, H, hnp, rfl⟩ := H
  obtain ⟨m, hm, hst⟩ := H.objs.ob a ha
  have fb := find_block H.space.wf hm
  have hr := hst.room
  have hl : ∀ W, Upd [] w W → Calls Tryz.prog 94 #[.pointer (some ⟨L.pa, 0, none⟩), .int .i64 (a + 1 + j)] W fun e w' => e = .returned (.tuple #[.int .i64 x, .int .i64 0]) ∧ W = w' := fun W hu => by
    have := load_yes L.pa L.ga S.W (a + 1 + j) W (H.space.upd0 hu).arena (by omega) (by omega)
    rw [show (a + 1 + (j : Int)).toNat = a.toNat + 1 + j by omega, hst.field j hj, hx] at this
    exact this
  have HQ := Lib.hid hq
  have HL := Lib.hid hl
  have HS := Lib.hid H
  clear hq H ha hl hm hst fb hr hnp hx hi hj
  go_enter Tryz.func64, Tryz.ntmps64
  go_wp2_with fail
  refine (HQ.out).mono ?_
  rintro e w1 ⟨rfl, hu⟩
  obtain ⟨c0, c1, c2, c3⟩ := (HS.out.upd0 hu).cells
  have HU := Lib.hid hu
  clear hu
  go_wp2_with fail
  refine (HL.out _ HU.out).mono ?_
  rintro e w2 ⟨rfl, rfl⟩
  go_wp2_with fail
  go_ret2
  exact ⟨rfl, HU.out⟩

theorem put_yes (h : Nat) (np : List Pst) (a i : Int) (j : Nat) (x : Int) (w : World) (H : HeapO w h np l F O) (ha : a ∈ l) (hi : i = j) (hj : j < (F a).ws.length) : Calls Tryz.prog 71 #[.pointer (some ⟨h, 0, none⟩), .int .i64 a, .int .i64 i, .int .i64 x] w fun e w' =>
    e = .returned (.int .i64 0) ∧ ∃ O', HeapO w' h np l (putF F a j x) O' ∧ StepO O w O' w' := by
  have hq := field_yes h np a i j w H ha hi hj
  have hb := H.pos ha
  obtain ⟨t, s, L, S, H, hnp, rfl⟩ := H
  obtain ⟨m, hm, hst⟩ := H.objs.ob a ha
  have fb := find_block H.space.wf hm
  have hr := hst.room
  have hl : ∀ W, Upd [] w W → Calls Tryz.prog 82 #[.pointer (some ⟨L.pa, 0, none⟩), .int .i64 (a + 1 + j), .int .i64 x] W fun e w' => e = .returned (.int .i64 0) ∧ ∃ O', HeapO w' h np l (putF F a j x) O' ∧ StepO (OwnsH h t s L S) w O' w' := fun W hu => by
    refine (store_yes L.pa L.ga S.W (a + 1 + j) x W (H.space.upd0 hu).arena (by omega) (by omega)).mono ?_
    rintro e w' ⟨rfl, har, hu2⟩
    rw [show (a + 1 + (j : Int)).toNat = a.toNat + 1 + j by omega] at har
    obtain ⟨L', hh, hs⟩ := H.after (After.behind hu ((H.space.upd0 hu).words har (by simp) hu2)) (H.objs.field H.space.wf ha hj x)
    exact ⟨rfl, _, ⟨t, s, L', _, hh, hnp, rfl⟩, hs⟩
  have HQ := Lib.hid hq
  have HL := Lib.hid hl
  have HS := Lib.hid H
  clear hq H ha hl hm hst fb hr hnp hi hj
  go_enter Tryz.func71, Tryz.ntmps71
  go_wp2_with fail
  refine (HQ.out).mono ?_
  rintro e w1 ⟨rfl, hu⟩
  obtain ⟨c0, c1, c2, c3⟩ := (HS.out.upd0 hu).cells
  have HU := Lib.hid hu
  clear hu
  go_wp2_with fail
  refine (HL.out _ HU.out).mono ?_
  rintro e w2 ⟨rfl, hh⟩
  have HH := Lib.hid hh
  clear hh
  go_wp2_with fail
  go_ret
  exact ⟨rfl, HH.out⟩

theorem may_final {k c n : Int} (h : mayB k c n false = true) (hk : k ≠ 4) : mayB k c n true = true := by
  unfold mayB at h ⊢
  rw [if_neg hk] at h ⊢
  exact h
theorem final_no (h : Nat) (np : List Pst) (a : Int) (w : World) (H : HeapO w h np l F O) (ha : a ∉ l) : Calls Tryz.prog 56 #[.pointer (some ⟨h, 0, none⟩), .int .i64 a] w fun e w' => e = .returned (.int .i64 2) ∧ Upd [] w w' := by
  have hq := head_no h np a w H ha
  have HQ := Lib.hid hq
  clear hq H ha
  go_enter Tryz.func56, Tryz.ntmps56
  go_wp2_with fail
  refine (HQ.out).mono ?_
  rintro e w1 ⟨rfl, hu⟩
  have HU := Lib.hid hu
  clear hu
  go_wp2_with fail
  go_ret
  exact ⟨rfl, HU.out.alloc _⟩
theorem final_bad (h : Nat) (np : List Pst) (a y : Int) (w : World) (H : HeapO w h np l F O) (ha : a ∈ l) (hy : (F a).k = 4 ∧ y = 5 ∨ (F a).k ≠ 4 ∧ (F a).f = true ∧ y = 4) : Calls Tryz.prog 56 #[.pointer (some ⟨h, 0, none⟩), .int .i64 a] w fun e w' => e = .returned (.int .i64 y) ∧ Upd [] w w' := by
  have hq := head_yes h np a (F a).k (F a).c (F a).ws.length (F a).f w H ha rfl
  generalize (F a).k = k at *
  generalize (F a).c = c at *
  generalize (F a).f = f at *
  generalize (F a).ws.length = n at *
  clear H ha
  rcases hy with ⟨rfl, rfl⟩ | ⟨hk, rfl, rfl⟩
  all_goals
    have HQ := Lib.hid hq
    clear hq
    go_enter Tryz.func56, Tryz.ntmps56
    go_wp2_with fail
    refine (HQ.out).mono ?_
    rintro e w1 ⟨rfl, hu⟩
    have HU := Lib.hid hu
    clear hu
    go_wp2_with fail
    go_ret
    exact ⟨rfl, HU.out.alloc _⟩
theorem final_yes (h : Nat) (np : List Pst) (a : Int) (w : World) (H : HeapO w h np l F O) (ha : a ∈ l) (hk : (F a).k ≠ 4) (hf : (F a).f = false) : Calls Tryz.prog 56 #[.pointer (some ⟨h, 0, none⟩), .int .i64 a] w fun e w' =>
    e = .returned (.int .i64 0) ∧ ∃ O', HeapO w' h np l (fset F a { F a with f := true }) O' ∧ StepO O w O' w' := by
  have hq := head_yes h np a (F a).k (F a).c (F a).ws.length (F a).f w H ha rfl
  have hb := H.pos ha
  have hmay := H.may ha
  rw [hf] at hmay hq
  have hmay2 := may_final hmay hk
  obtain ⟨t, s, L, S, H, hnp, rfl⟩ := H
  obtain ⟨m, hm, hst⟩ := H.objs.ob a ha
  have fb := find_block H.space.wf hm
  have hr := hst.room
  have hl : ∀ W, Upd [] w W → Calls Tryz.prog 82 #[.pointer (some ⟨L.pa, 0, none⟩), .int .i64 a, .int .i64 (putZ (F a).k (F a).c (F a).ws.length true)] W fun e w' => e = .returned (.int .i64 0) ∧ ∃ O', HeapO w' h np l (fset F a { F a with f := true }) O' ∧ StepO (OwnsH h t s L S) w O' w' := fun W hu => by
    refine (store_yes L.pa L.ga S.W a _ W (H.space.upd0 hu).arena (by omega) (by omega)).mono ?_
    rintro e w' ⟨rfl, har, hu2⟩
    obtain ⟨L', hh, hs⟩ := H.after (After.behind hu ((H.space.upd0 hu).words har (by simp) hu2)) (H.objs.final H.space.wf ha hmay2)
    exact ⟨rfl, _, ⟨t, s, L', _, hh, hnp, rfl⟩, hs⟩
  generalize fset F a { F a with f := true } = F' at *
  generalize (F a).k = k at *
  generalize (F a).c = c at *
  generalize (F a).ws.length = n at *
  have HQ := Lib.hid hq
  have HL := Lib.hid hl
  have HS := Lib.hid H
  have HP := Lib.hid (fun W => head_put_yes k c n true W hmay2)
  generalize putZ k c n true = p at *
  clear hq H ha hl hm hst fb hr hnp hmay hmay2
  go_enter Tryz.func56, Tryz.ntmps56
  go_wp2_with fail
  refine (HQ.out).mono ?_
  rintro e w1 ⟨rfl, hu⟩
  have HU := Lib.hid hu
  clear hu
  go_wp2_with fail
  refine (HP.out _).mono ?_
  rintro e w2 ⟨rfl, hu⟩
  have HV : Hid (Upd [] w w2) := Lib.hid (Upd.trans (HU.out.alloc _) hu)
  clear hu
  obtain ⟨c0, c1, c2, c3⟩ := (HS.out.upd0 HV.out).cells
  go_wp2_with fail
  refine (HL.out _ HV.out).mono ?_
  rintro e w3 ⟨rfl, hh⟩
  have HH := Lib.hid hh
  clear hh
  go_wp2_with fail
  go_ret
  exact ⟨rfl, HH.out⟩
end
end Go.Proofs.YtpkbdmieelgdlaaGreat
