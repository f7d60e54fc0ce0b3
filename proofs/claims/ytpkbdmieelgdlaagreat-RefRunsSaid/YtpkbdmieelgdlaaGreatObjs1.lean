/- All objects of the program's heap. -/
import Derived.Test.YtpkbdmieelgdlaaGreatOv
import Derived.Deep.LoopGhost
namespace Go.Proofs.YtpkbdmieelgdlaaGreat
open Go Go.RowKit

/-- The places of all objects, in order: by the pages alone. -/
def eachP (pg : List Pst) : List Int := (Sp.mk [] pg).each
theorem eachP_any (S : Sp) : S.each = eachP S.pg := rfl
/-- All objects, in order. -/
def objsOf (pg : List Pst) (F : Int → Ob) : List (Int × Ob) := (eachP pg).map fun a => (a, F a)
theorem objsOf_len (pg : List Pst) (F : Int → Ob) : (objsOf pg F).length = (eachP pg).length := by simp [objsOf]
theorem objsOf_take (pg : List Pst) (F : Int → Ob) (j : Nat) (hj : j < (eachP pg).length) : (objsOf pg F).take (j + 1) = (objsOf pg F).take j ++ [((eachP pg).getD j 0, F ((eachP pg).getD j 0))] := by
  rw [List.take_succ_eq_append_getElem (by rw [objsOf_len]; exact hj)]
  congr 2
  simp [objsOf, List.getD_eq_getElem?_getD, List.getElem?_eq_getElem hj]
section
variable {w w' : World} {h : Nat} {np : List Pst} {l : List Int} {F : Int → Ob} {O : Nat → Prop}
theorem HeapO.each (H : HeapO w h np l F O) : ∃ s, ∀ W, Upd [] w W → W.cell? ⟨h, 0, none⟩ = some (.pointer (some ⟨s, 0, none⟩)) ∧ Calls Tryz.prog 62 #[.pointer (some ⟨s, 0, none⟩)] W fun e w' => ∃ v, e = .returned v ∧ Own w' W.heap.size v (eachP np) ∧ Upd [] W w' := by
  obtain ⟨t, s, L, S, H, rfl, rfl⟩ := H
  exact ⟨s, fun W hu => ⟨(H.upd0 hu).cells.1, each_calls s L S W (H.upd0 hu).space⟩⟩
theorem HeapO.mem (H : HeapO w h np l F O) : (eachP np).length ≤ 16384 ∧ ∀ a ∈ eachP np, a ∈ l := by
  obtain ⟨t, s, L, S, H, rfl, rfl⟩ := H
  refine ⟨by have := each_length H.space.wf; exact this, fun a ha => ?_⟩
  obtain ⟨m, hm⟩ := (each_iff H.space.wf).1 (show a ∈ S.each from ha)
  exact H.objs.dom a m hm
set_option maxRecDepth 100000 in
set_option maxHeartbeats 1600000 in
theorem heap_objects (h : Nat) (np : List Pst) (w : World) (H : HeapO w h np l F O) : Calls Tryz.prog 20 #[.pointer (some ⟨h, 0, none⟩)] w fun e w' =>
    ∃ v ss, e = .returned v ∧ ObjsV w' w.heap.size v (objsOf np F) ss ∧ Upd [] w w' := by
  have HH := Lib.hid H
  obtain ⟨s, hs⟩ := H.each
  obtain ⟨hlen, hmem⟩ := H.mem
  have HS := Lib.hid hs
  have HM : Hid (∀ j, j < (eachP np).length → (eachP np).getD j 0 ∈ l) := Lib.hid fun j hj => hmem _ (by rw [List.getD_eq_getElem?_getD, List.getElem?_eq_getElem hj]; exact List.getElem_mem hj)
  have HE : Hid (∀ j, j < (eachP np).length → (objsOf np F).take (j + 1) = (objsOf np F).take j ++ [((eachP np).getD j 0, F ((eachP np).getD j 0))]) := Lib.hid fun j hj => objsOf_take np F j hj
  have HT : Hid ((objsOf np F).take (eachP np).length = objsOf np F) := Lib.hid (by rw [← objsOf_len np F]; exact List.take_length)
  have HL2 : Hid (∀ j, ((objsOf np F).take j).length ≤ 16384) := Lib.hid fun j => by rw [List.length_take, objsOf_len]; omega
  clear H hs hmem
  obtain ⟨c0, hc⟩ := HS.out w (Upd.refl _ _)
  have HC := Lib.hid hc
  clear hc
  go_enter Tryz.func20, Tryz.ntmps20
  go_wp2_with fail
  refine (HC.out).mono ?_
  rintro e w1 ⟨v1, rfl, ho, hu⟩
  have HU1 := Lib.hid hu
  obtain ⟨A1, cap1, rfl, _, _⟩ := ho.form
  obtain ⟨N, hN⟩ : ∃ N, (eachP np).length = N := ⟨_, rfl⟩
  rw [hN] at hlen HM HE HT ho ⊢
  have HI := Lib.hid ho
  have HN := Lib.hid hN
  clear ho hu hN c0
  go_wp2_with fail
  go_loopg [3, 18] N (fun gk v i wr => ∃ (j : Nat) (ss : List Value), gk = N - j ∧ j ≤ N ∧ i = .int .i64 j ∧ Hid (ObjsV wr w.heap.size v ((objsOf np F).take j) ss) ∧ Hid (Upd [] w wr) ∧ Hid (Own wr w.heap.size (.slice A1 N cap1) (eachP np)))
  case atStart => exact ⟨0, [], rfl, by omega, rfl, Lib.hid (ObjsV.nil _ _), HU1, HI⟩
  case round =>
    clear HU1 HI
    obtain ⟨j, ss, rfl, hj, rfl, HV, HU, HI⟩ := hrel
    by_cases hlt : j < N
    · obtain ⟨_, b, off, rfl, _, d1⟩ := own_at HI.out hlt
      have hm := HM.out j hlt
      have he := HE.out j hlt
      generalize (eachP np).getD j 0 = a at *
      have hpos := (HH.out).pos hm
      have HME := Lib.hid hm
      have HEQ := Lib.hid he
      clear hm he
      obtain ⟨o, ho⟩ : ∃ o, F a = o := ⟨_, rfl⟩
      rw [ho] at hpos HEQ
      obtain ⟨_, _, hpos⟩ := hpos
      have HQ := Lib.hid (fun W (hu : Upd [] w W) => head_yes h np a o.k o.c o.ws.length o.f W (HH.out.upd0 hu) HME.out (by rw [ho]; rfl))
      have HGET := Lib.hid (fun W (hu : Upd [] w W) (k : Nat) (hk : k < o.ws.length) => get_yes h np a k k (o.ws.getD k 0) W (HH.out.upd0 hu) HME.out rfl (by rw [ho]; exact hk) (by rw [ho]))
      have HTK : Hid (∀ k, k < o.ws.length → o.ws.take (k + 1) = o.ws.take k ++ [o.ws.getD k 0]) := Lib.hid fun k hk => by rw [List.take_succ_eq_append_getElem hk, List.getD_eq_getElem?_getD, List.getElem?_eq_getElem hk]; rfl
      have HTA : Hid (o.ws.take o.ws.length = o.ws) := Lib.hid List.take_length
      obtain ⟨n, hn⟩ : ∃ n, o.ws.length = n := ⟨_, rfl⟩
      rw [hn] at hpos HQ HGET HTK HTA
      have HNW := Lib.hid hn
      have HB0 : Hid (Blk (wr.alloc (.cells #[.int .i64 a, .int .i64 0, .int .i64 0, .int .i64 0, .bool false, .slice none 0 0] 105)) wr.heap.size 105 #[.int .i64 a, .int .i64 0, .int .i64 0, .int .i64 0, .bool false, .slice none 0 0]) := Lib.hid (Blk.new _ _ _)
      have HUA : Hid (Upd [] wr (wr.alloc (.cells #[.int .i64 a, .int .i64 0, .int .i64 0, .int .i64 0, .bool false, .slice none 0 0] 105))) := Lib.hid ((Upd.refl [] wr).alloc _)
      clear ho hn
      go_wp2_with fail
      refine (HQ.out _ (HU.out.trans HUA.out)).mono ?_
      rintro e w2 ⟨rfl, hu⟩
      have hb2 := HB0.out.upd hu (by simp)
      have HU2 : Hid (Upd [] wr w2) := Lib.hid (HUA.out.trans hu)
      have x1 : w2.cell? ⟨wr.heap.size, 1, none⟩ = some (.int .i64 0) := hb2.cell 1
      have x2 : w2.cell? ⟨wr.heap.size, 2, none⟩ = some (.int .i64 0) := hb2.cell 2
      have x3 : w2.cell? ⟨wr.heap.size, 3, none⟩ = some (.int .i64 0) := hb2.cell 3
      have x4 : w2.cell? ⟨wr.heap.size, 4, none⟩ = some (.bool false) := hb2.cell 4
      have y1 := hb2.frozen 1
      have y2 := hb2.frozen 2
      have y3 := hb2.frozen 3
      have y4 := hb2.frozen 4
      have HB3 := Lib.hid ((((hb2.set_ 1 (.int .i64 o.k)).set_ 2 (.int .i64 o.c)).set_ 3 (.int .i64 n)).set_ 4 (.bool o.f))
      have HU3 := Lib.hid ((((HU2.out.setCell (p := ⟨wr.heap.size, 1, none⟩) (.inr (Nat.le_refl _)) (.int .i64 o.k)).setCell (p := ⟨wr.heap.size, 2, none⟩) (.inr (Nat.le_refl _)) (.int .i64 o.c)).setCell (p := ⟨wr.heap.size, 3, none⟩) (.inr (Nat.le_refl _)) (.int .i64 n)).setCell (p := ⟨wr.heap.size, 4, none⟩) (.inr (Nat.le_refl _)) (.bool o.f))
      clear hu hb2 HB0 HUA HU2
      have HB4 : Hid (Blk ((((w2.setCell ⟨wr.heap.size, 1, none⟩ (.int .i64 o.k)).setCell ⟨wr.heap.size, 2, none⟩ (.int .i64 o.c)).setCell ⟨wr.heap.size, 3, none⟩ (.int .i64 n)).setCell ⟨wr.heap.size, 4, none⟩ (.bool o.f)) wr.heap.size 105 #[.int .i64 a, .int .i64 o.k, .int .i64 o.c, .int .i64 n, .bool o.f, .slice none 0 0]) := Lib.hid HB3.out
      clear HB3
      go_wp2_with fail
      obtain ⟨wo, rfl⟩ : ∃ wo : World, wo = wr := ⟨_, rfl⟩
      go_loopg [34] n (fun gk i wx => ∃ (k : Nat) (s2 : Value), gk = n - k ∧ k ≤ n ∧ i = .int .i64 k ∧ Hid (Blk wx wo.heap.size 105 #[.int .i64 a, .int .i64 o.k, .int .i64 o.c, .int .i64 n, .bool o.f, s2]) ∧ Hid (Own wx wo.heap.size s2 (o.ws.take k)) ∧ Hid (Upd [] wo wx))
      case atStart => exact ⟨0, _, rfl, by omega, rfl, HB4, Lib.hid (Own.nil _ _), HU3⟩
      case round =>
        clear HB4 HU3 x1 x2 x3 x4 y1 y2 y3 y4 d1
        obtain ⟨k, s2, rfl, hk, rfl, HB, HS2, HUx⟩ := hrel
        by_cases hkn : k < n
        · obtain ⟨x, hx⟩ : ∃ x, o.ws.getD k 0 = x := ⟨_, rfl⟩
          have hget := HGET.out _ (HU.out.trans HUx.out) k hkn
          have htk := HTK.out k hkn
          rw [hx] at hget htk
          have HG2 := Lib.hid hget
          have HT2 := Lib.hid htk
          clear hx hget htk
          go_wp2_with fail
          refine (HG2.out).mono ?_
          rintro e w4 ⟨rfl, hu⟩
          have HB4 := Lib.hid (HB.out.upd hu (by simp))
          have HS4 := Lib.hid (HS2.out.moved fun g hg => hu.block g (own_low HS2.out hg).2 (by simp))
          have HU4 := Lib.hid (HUx.out.trans hu)
          have x5 : w4.cell? ⟨wo.heap.size, 5, none⟩ = some s2 := HB4.out.cell 5
          clear hu
          go_wp2_with (at_builtin; refine wpList_push1 rfl _ _ rfl wo.heap.size s2 (o.ws.take k) rfl (HS4.out.alloc _) w4.heap.size x rfl (Blk.new _ _ _) (by rw [List.length_take, HNW.out]; omega) (by have := HU4.out.size; simp; omega) ?_)
          intro v' w5 h1 h2 h3
          obtain ⟨A5, c5, hv5, _, _⟩ := h1.form
          obtain ⟨n5, hn5⟩ : ∃ n5, (o.ws.take k ++ [x]).length = n5 := ⟨_, rfl⟩
          rw [hn5] at hv5
          subst hv5
          clear hn5
          have hb5 := (HB4.out.alloc (.cells #[.int .i64 x] 3)).upd h2 (fun hm => own_ne HS4.out HB4.out (by decide) (by simpa using hm))
          have HU5 : Hid (Upd [] wo w5) := Lib.hid ((HU4.out.alloc _).step h2 fun i hi => .inr (own_low HS4.out (by simpa using hi)).1)
          have x6 : w5.cell? ⟨wo.heap.size, 5, none⟩ = some s2 := hb5.cell 5
          have x7 := hb5.frozen 5
          have HS5 := Lib.hid h1
          have HB5 := Lib.hid hb5
          clear h1 h2 h3 hb5 x5
          go_wp2_with fail
          go_roundg (n - (k + 1))
          case measure => omega
          case rel => exact ⟨k + 1, .slice A5 n5 c5, rfl, by omega, by go_num, Lib.hid (HB5.out.set_ 5 (.slice A5 n5 c5)), Lib.hid (by rw [HT2.out]; exact HS5.out.moved fun g hg => Below.heap_setCell _ _ _ _ (fun e => own_ne HS5.out HB5.out (by decide) (by rw [hg]; exact congrArg some e))), Lib.hid (HU5.out.setCell (.inr (Nat.le_refl _)) _)⟩
        · obtain rfl : k = n := by omega
          have hs2 := HS2.out
          rw [HTA.out] at hs2
          have HS3 : Hid (Own wr w.heap.size s2 o.ws) := Lib.hid (own_mono hs2 HU.out.size)
          have x0 : wr.cell? ⟨wo.heap.size, 0, none⟩ = some (.int .i64 a) := HB.out.cell 0
          have x1 : wr.cell? ⟨wo.heap.size, 1, none⟩ = some (.int .i64 o.k) := HB.out.cell 1
          have x2 : wr.cell? ⟨wo.heap.size, 2, none⟩ = some (.int .i64 o.c) := HB.out.cell 2
          have x3 : wr.cell? ⟨wo.heap.size, 3, none⟩ = some (.int .i64 k) := HB.out.cell 3
          have x4 : wr.cell? ⟨wo.heap.size, 4, none⟩ = some (.bool o.f) := HB.out.cell 4
          have x5 : wr.cell? ⟨wo.heap.size, 5, none⟩ = some s2 := HB.out.cell 5
          have HUX := Lib.hid (HU.out.trans HUx.out)
          have HVX := Lib.hid (HV.out.upd0 HUx.out)
          have HIX := Lib.hid (HI.out.moved fun g hg => HUx.out.block g (own_low HI.out hg).2 (by simp))
          clear hs2 HU HV HI
          go_wp2_with (at_builtin; refine wpList_pushObj w rfl _ _ rfl w.heap.size _ ((objsOf np F).take j) ss rfl (HVX.out.upd0 ((Upd.refl [] wr).alloc _)) wr.heap.size (a, o) s2 rfl (by have := Blk.new wr 105 (objCells (a, o) s2).toArray; rw [show (objCells (a, o) s2).toArray = #[.int .i64 a, .int .i64 o.k, .int .i64 o.c, .int .i64 k, .bool o.f, s2] by rw [← HNW.out]; rfl] at this ⊢; exact this) (HS3.out.alloc _) (by have := HL2.out j; omega) (Nat.le_refl _) (HUX.out.alloc _) (by have := HUX.out.size; simp; omega) ?_)
          intro v' w6 h1 h2 h3 h4
          rw [← HEQ.out] at h1
          have HV6 := Lib.hid h1
          have HU6 := Lib.hid h2
          have HI6 : Hid (Own w6 w.heap.size (.slice (some ⟨b, off, none⟩) N cap1) (eachP np)) := Lib.hid ((HIX.out.alloc (.cells #[.int .i64 a, .int .i64 o.k, .int .i64 o.c, .int .i64 k, .bool o.f, s2] 105)).moved fun g hg => h4.block g (Nat.lt_of_lt_of_le (own_low HIX.out hg).2 (by simp)) fun hm => HVX.out.apart HIX.out (by simpa using hm) hg)
          clear h1 h2 h3 h4
          go_wp2_with fail
          go_roundg (N - (j + 1))
          case measure => omega
          case rel => exact ⟨j + 1, _, rfl, by omega, by go_num, HV6, HU6, HI6⟩
    · obtain rfl : j = N := by omega
      go_wp2_with fail
      go_ret
      have hv := HV.out
      rw [HT.out] at hv
      exact ⟨_, ss, rfl, hv, HU.out⟩
end
end Go.Proofs.YtpkbdmieelgdlaaGreat
