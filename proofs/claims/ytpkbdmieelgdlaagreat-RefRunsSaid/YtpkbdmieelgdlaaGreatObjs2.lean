/- All objects of the document's heap. -/
import Derived.Test.YtpkbdmieelgdlaaGreatObjs1
import Derived.Test.YtpkbdmieelgdlaaGreatDh4
import Derived.Test.YtpkbdmieelgdlaaGreatStepP
import Derived.Deep.RegionHeld3
namespace Go.Proofs.YtpkbdmieelgdlaaGreat
open Go Go.RowKit

theorem find_two {S : Sp} (h : S.WF) {a m : Int} (hf : S.find a = (a, m, true)) (hm : m ≤ 32) : 2 ≤ m := by
  have fb := find_block h hf
  have hlen := h.len
  rw [find_in (by omega) (by omega)] at hf
  cases hx : atP S.pg (a / 64).toNat <;> rw [hx] at hf <;> simp only [findIn] at hf
  case zero => cases hf
  case free => cases hf
  case small c l =>
    have hc := (h.small _ c l hx).1
    have hw := words_pos hc
    split at hf
    · simp only [Prod.mk.injEq] at hf; omega
    · cases hf
  case first k => simp only [Prod.mk.injEq] at hf; omega
  case rest f => simp only [Prod.mk.injEq] at hf; omega
section
variable {w w' : World} {h m : Nat} {np : List Pst} {l : List Int} {F : Int → Ob} {O Os : Nat → Prop}
theorem HeapDL.two {S : Sp} (H : HeapDL w h m S Os l F) {p : Nat} (ha : (p : Int) ∈ l) : p + 2 ≤ S.W.length := by
  obtain ⟨k, hk, hst⟩ := H.objs.ob _ ha
  have fb := find_block H.space.wf hk
  have := find_two H.space.wf hk hst.small
  omega
theorem HeapD.mem (H : HeapD w h np l F O) : (eachP np).length ≤ 16384 ∧ ∀ a ∈ eachP np, a ∈ l := by
  obtain ⟨m, S, Os, H, rfl, rfl⟩ := H
  refine ⟨by have := each_length H.space.wf; exact this, fun a ha => ?_⟩
  obtain ⟨m, hm⟩ := (each_iff H.space.wf).1 (show a ∈ S.each from ha)
  exact H.objs.dom a m hm
/-- A piece of the words, as a slice. -/
theorem HeapDL.piece {S : Sp} (H : HeapDL w h m S Os l F) {p : Nat} (ha : (p : Int) ∈ l) {gw : Nat} (hw : ∀ i, i < S.W.length → w.cell? ⟨gw, i, none⟩ = some (.int .i64 (S.W.getD i 0))) (hg : gw < w.heap.size) : IsInts w (some ⟨gw, p + 1, none⟩) (F (p : Int)).ws := by
  obtain ⟨p', e, h1, h2, _, _, _, h4⟩ := H.at ha
  have e : p = p' := by omega
  subst e
  refine .inr ⟨gw, p + 1, rfl, hg, fun i hi => ?_⟩
  rw [hw _ (by omega), h4 i hi]
set_option maxRecDepth 100000 in
set_option maxHeartbeats 3200000 in
theorem dheap_objects (h : Nat) (np : List Pst) (w : World) (H : HeapD w h np l F O) : Calls Tryz.prog 21 #[.pointer (some ⟨h, 0, none⟩)] w fun e w' =>
    ∃ v ss, e = .returned v ∧ ObjsV w' w.heap.size v (objsOf np F) ss ∧ Upd [] w w' := by
  obtain ⟨hlen, hmem⟩ := H.mem
  have HHD := Lib.hid H
  obtain ⟨m, S, Os, H, hnp, rfl⟩ := H
  have HH := Lib.hid H
  have HSE := Lib.hid (fun W (hu : Upd [] w W) => doc_each m S W (H.upd0 hu).space)
  obtain ⟨gw, hgw, hword⟩ := H.word
  have HW := Lib.hid hword
  have HGW := Lib.hid (H.space.owned hgw)
  have HES : Hid (S.each = eachP np) := Lib.hid (by rw [← hnp]; rfl)
  have HM : Hid (∀ j, j < (eachP np).length → (eachP np).getD j 0 ∈ l) := Lib.hid fun j hj => hmem _ (by rw [List.getD_eq_getElem?_getD, List.getElem?_eq_getElem hj]; exact List.getElem_mem hj)
  have HE : Hid (∀ j, j < (eachP np).length → (objsOf np F).take (j + 1) = (objsOf np F).take j ++ [((eachP np).getD j 0, F ((eachP np).getD j 0))]) := Lib.hid fun j hj => objsOf_take np F j hj
  have HT : Hid ((objsOf np F).take (eachP np).length = objsOf np F) := Lib.hid (by rw [← objsOf_len np F]; exact List.take_length)
  have HL2 : Hid (∀ j, ((objsOf np F).take j).length ≤ 16384) := Lib.hid fun j => by rw [List.length_take, objsOf_len]; omega
  clear hmem hword hgw hnp
  obtain ⟨c0, c1⟩ := H.cells
  clear H
  go_enter Tryz.func21, Tryz.ntmps21
  go_wp2_with fail
  refine (HSE.out _ (Upd.refl _ _)).mono ?_
  rintro e w1 ⟨v1, rfl, ho, hu⟩
  rw [HES.out] at ho
  have HU1 := Lib.hid hu
  obtain ⟨A1, cap1, rfl, _, _⟩ := ho.form
  obtain ⟨N, hN⟩ : ∃ N, (eachP np).length = N := ⟨_, rfl⟩
  rw [hN] at hlen HM HE HT ho ⊢
  have HI := Lib.hid ho
  have HN := Lib.hid hN
  clear ho hu hN c0 c1
  go_wp2_with fail
  go_loopg [3, 5] N (fun gk v i wr => ∃ (j : Nat) (ss : List Value), gk = N - j ∧ j ≤ N ∧ i = .int .i64 j ∧ Hid (ObjsV wr w.heap.size v ((objsOf np F).take j) ss) ∧ Hid (Upd [] w wr) ∧ Hid (Own wr w.heap.size (.slice A1 N cap1) (eachP np)))
  case atStart => exact ⟨0, [], rfl, by omega, rfl, Lib.hid (ObjsV.nil _ _), HU1, HI⟩
  case round =>
    clear HU1 HI
    obtain ⟨j, ss, rfl, hj, rfl, HV, HU, HI⟩ := hrel
    by_cases hlt : j < N
    · obtain ⟨_, b, off, rfl, hbw, d1⟩ := own_at HI.out hlt
      have hm := HM.out j hlt
      have he := HE.out j hlt
      obtain ⟨a, hga⟩ : ∃ a, (eachP np).getD j 0 = a := ⟨_, rfl⟩
      have HGA := Lib.hid hga
      rw [hga] at hm he d1
      clear hga
      obtain ⟨p, rfl, hp1, hp2, hp3, _, _, _⟩ := HH.out.at hm
      have hp4 := HH.out.two hm
      obtain ⟨o, ho⟩ : ∃ o, F (p : Int) = o := ⟨_, rfl⟩
      rw [ho] at he hp2
      have HME := Lib.hid hm
      have HEQ := Lib.hid he
      have HFO := Lib.hid ho
      have HQ := Lib.hid (fun W (hu : Upd [] w W) => dhead_yes h np p o.k o.c o.ws.length o.f W (HHD.out.upd0 hu) hm (by rw [ho]; rfl))
      obtain ⟨n, hn⟩ : ∃ n, o.ws.length = n := ⟨_, rfl⟩
      rw [hn] at hp2 HQ
      have HNW := Lib.hid hn
      clear ho hm he hn
      go_wp2_with fail
      refine (HQ.out _ HU.out).mono ?_
      rintro e w2 ⟨rfl, hu⟩
      have HU2 := Lib.hid (HU.out.trans hu)
      have HUR : Hid (Upd [] wr w2) := Lib.hid hu
      clear hu d1
      obtain ⟨w3, hw3⟩ : ∃ w3, w2.alloc (.cells #[.int .i64 o.k, .int .i64 o.c, .int .i64 n, .bool o.f, .bool true] 113) = w3 := ⟨_, rfl⟩
      have HR3 : Hid (Upd [] wr w3) := Lib.hid (by rw [← hw3]; exact HUR.out.alloc _)
      have HB3 : Hid (Blk w3 w2.heap.size 113 #[.int .i64 o.k, .int .i64 o.c, .int .i64 n, .bool o.f, .bool true]) := Lib.hid (by rw [← hw3]; exact Blk.new _ _ _)
      have HW3 := Lib.hid hw3
      clear hw3
      have HU3 := Lib.hid (HU.out.trans HR3.out)
      have HV3 := Lib.hid (HV.out.upd0 HR3.out)
      have HI3 := Lib.hid (HI.out.moved fun g hg => HR3.out.block g (own_low HI.out hg).2 (by simp))
      have HFACT : Hid (∀ W, Upd [] w3 W → W.cell? ⟨h, 0, none⟩ = some (.pointer (some ⟨m, 0, none⟩)) ∧ W.cell? ⟨m, 0, none⟩ = some (.slice (some ⟨gw, 0, none⟩) S.W.length S.W.length) ∧ W.cell? ⟨b, off + j, none⟩ = some (.int .i64 p) ∧
          W.cell? ⟨w2.heap.size, 0, none⟩ = some (.int .i64 o.k) ∧ W.cell? ⟨w2.heap.size, 1, none⟩ = some (.int .i64 o.c) ∧ W.cell? ⟨w2.heap.size, 2, none⟩ = some (.int .i64 n) ∧ W.cell? ⟨w2.heap.size, 3, none⟩ = some (.bool o.f)) := Lib.hid fun W hu => by
        obtain ⟨e1, e2, _⟩ := HW.out W (HU3.out.trans hu)
        have hb := HB3.out.upd hu (by simp)
        refine ⟨e1, e2, ?_, hb.cell 0, hb.cell 1, hb.cell 2, hb.cell 3⟩
        obtain ⟨_, b', off', e, _, hc⟩ := own_at (HI3.out.moved (w' := W) fun g hg => hu.block g (own_low HI3.out hg).2 (by simp)) hlt
        simp only [Option.some.injEq, Addr.mk.injEq, and_true] at e
        obtain ⟨rfl, rfl⟩ := e
        rw [hc, HGA.out]
      have hs1 : IntKind.i64.wrap ((p : Int) + 1) = (p : Int) + 1 := IntWalk.i64_in _ (by omega)
      have hs2 : IntKind.i64.wrap ((p : Int) + 1 + (n : Int)) = (p : Int) + 1 + (n : Int) := IntWalk.i64_in _ (by omega)
      obtain ⟨NW, hNW⟩ : ∃ NW, S.W.length = NW := ⟨_, rfl⟩
      rw [hNW] at hp2 hp3 hp4 HFACT
      have HNN := Lib.hid hNW
      have HPC : Hid (∀ W, Upd [] w W → IsInts W (some ⟨gw, p + 1, none⟩) o.ws) := Lib.hid fun W hu => by
        have := (HH.out.upd0 hu).piece HME.out (fun i hi => ((HW.out W hu).2.2 i hi).1) (Nat.lt_of_lt_of_le HGW.out hu.size)
        rwa [HFO.out] at this
      clear hNW
      have hb1 : (0 : Int) ≤ (p : Int) + 1 := by omega
      have hb2 : (p : Int) + 1 ≤ (p : Int) + 1 + (n : Int) := by omega
      have hb3 : (p : Int) + 1 + (n : Int) ≤ (NW : Int) := by omega
      have hne : ¬ NW = p + 1 := by omega
      have hto : ((p : Int) + 1 + (n : Int)).toNat - (p + 1) = n := by omega
      go_upto_region 7 with fail
      rw [HW3.out]
      try simp only [List.append_eq, List.cons_append, List.nil_append]
      go_region_held3 (fun w' => w'.cell? ⟨h, 0, none⟩ = some (.pointer (some ⟨m, 0, none⟩)) ∧ w'.cell? ⟨m, 0, none⟩ = some (.slice (some ⟨gw, 0, none⟩) NW NW) ∧ w'.cell? ⟨b, off + j, none⟩ = some (.int .i64 p) ∧
          w'.cell? ⟨w2.heap.size, 0, none⟩ = some (.int .i64 o.k) ∧ w'.cell? ⟨w2.heap.size, 1, none⟩ = some (.int .i64 o.c) ∧ w'.cell? ⟨w2.heap.size, 2, none⟩ = some (.int .i64 n) ∧ w'.cell? ⟨w2.heap.size, 3, none⟩ = some (.bool o.f))
        (first | exact HFACT.out _ (Upd.refl [] w3).drew | exact HFACT.out _ ((Upd.refl [] w3).drew.alloc _) | exact HFACT.out _ HU5.out | exact HFACT.out _ (HU5.out.alloc _) | exact HF7.out)
        (first
          | (refine step_pushes w3 rfl _ _ rfl w3.heap.size (.slice (some ⟨w3.heap.size, 0, none⟩) 0 0) [] rfl (Own.empty w3.drew (Nat.le_refl _)) (some ⟨gw, p + 1, none⟩) (NW - (p + 1)) o.ws n HNW.out (by first | rfl | (show Value.slice (if NW = p + 1 then _ else _) _ _ = _; rw [if_neg hne, hto])) (HPC.out _ (HU3.out.drew.alloc _)) (fun e => by cases e) (by rw [HNW.out]; simp; omega) (Nat.le_refl _) ((Upd.refl [] w3).drew.alloc _) (by simp) ?_
             intro v5 w5 h1 h2 h3 h4
             rw [List.nil_append] at h1
             obtain ⟨A5, c5, rfl, _, _⟩ := h1.form
             rw [HNW.out] at h1
             have HS5 : Hid (Own w5 w3.heap.size (.slice A5 o.ws.length c5) o.ws) := Lib.hid (by rw [HNW.out]; exact h1)
             have HU5 : Hid (Upd [] w3 w5) := Lib.hid h2
             have HOC : Hid ((objCells ((p : Int), o) (.slice A5 o.ws.length c5)).toArray = #[.int .i64 p, .int .i64 o.k, .int .i64 o.c, .int .i64 n, .bool o.f, .slice A5 o.ws.length c5]) := Lib.hid (by simp only [objCells, HNW.out])
             clear h1 h2 h3 h4)
          | (refine step_pushObj w rfl _ _ rfl w.heap.size u3 ((objsOf np F).take j) ss rfl (HV3.out.upd0 (HU5.out.alloc _)) w5.heap.size ((p : Int), o) (.slice A5 o.ws.length c5) rfl (by rw [HOC.out]; exact Blk.new _ _ _) (own_mono (HS5.out.alloc _) (by have := HU3.out.size; omega)) (by have := HL2.out j; omega) (Nat.le_refl _) (HU3.out.trans (HU5.out.alloc _)) (by have := HU5.out.size; have := HU3.out.size; simp; omega) ?_
             intro v7 w7 h1 h2 h3 h4
             rw [← HEQ.out] at h1
             have HV5 := Lib.hid (HV3.out.upd0 (HU5.out.alloc (.cells #[.int .i64 p, .int .i64 o.k, .int .i64 o.c, .int .i64 n, .bool o.f, .slice A5 o.ws.length c5] 105)))
             have HI5 := Lib.hid (HI3.out.moved fun g hg => (HU5.out.alloc (.cells #[.int .i64 p, .int .i64 o.k, .int .i64 o.c, .int .i64 n, .bool o.f, .slice A5 o.ws.length c5] 105)).block g (own_low HI3.out hg).2 (by simp))
             have HI7 : Hid (Own w7 w.heap.size (.slice (some ⟨b, off, none⟩) N cap1) (eachP np)) := Lib.hid (HI5.out.moved fun g hg => h4.block g (own_low HI5.out hg).2 fun hm => HV5.out.apart HI5.out (by simpa using hm) hg)
             have HF7 : Hid (w7.cell? ⟨h, 0, none⟩ = some (.pointer (some ⟨m, 0, none⟩)) ∧ w7.cell? ⟨m, 0, none⟩ = some (.slice (some ⟨gw, 0, none⟩) NW NW) ∧ w7.cell? ⟨b, off + j, none⟩ = some (.int .i64 p) ∧
                 w7.cell? ⟨w2.heap.size, 0, none⟩ = some (.int .i64 o.k) ∧ w7.cell? ⟨w2.heap.size, 1, none⟩ = some (.int .i64 o.c) ∧ w7.cell? ⟨w2.heap.size, 2, none⟩ = some (.int .i64 n) ∧ w7.cell? ⟨w2.heap.size, 3, none⟩ = some (.bool o.f)) := Lib.hid (by
               obtain ⟨e0, e1, e2, e3, e4, e5, e6⟩ := HFACT.out _ (HU5.out.alloc (.cells #[.int .i64 p, .int .i64 o.k, .int .i64 o.c, .int .i64 n, .bool o.f, .slice A5 o.ws.length c5] 105))
               have hb3 := HB3.out.upd (HU5.out.alloc (.cells #[.int .i64 p, .int .i64 o.k, .int .i64 o.c, .int .i64 n, .bool o.f, .slice A5 o.ws.length c5] 105)) (by simp)
               have hb7 := hb3.upd h4 (fun hm => HV5.out.ne hb3 (by decide) (by simpa using hm))
               have hlow : ∀ (q : Addr) (x : Value), q.block < w.heap.size → (w5.alloc (.cells #[.int .i64 p, .int .i64 o.k, .int .i64 o.c, .int .i64 n, .bool o.f, .slice A5 o.ws.length c5] 105)).cell? q = some x → w7.cell? q = some x := fun q x hq hx => (h4.cell (World.block_lt_of_cell? _ _ hx) (fun hm => by have := (HV5.out.low (by simpa using hm)).1; omega)).trans hx
               refine ⟨hlow _ _ HH.out.box.lt e0, hlow _ _ (World.block_lt_of_cell? _ _ ((HW.out w (Upd.refl [] w)).2.1)) e1, ?_, hb7.cell 0, hb7.cell 1, hb7.cell 2, hb7.cell 3⟩
               obtain ⟨_, b', off', e, _, hc⟩ := own_at HI7.out hlt
               simp only [Option.some.injEq, Addr.mk.injEq, and_true] at e
               obtain ⟨rfl, rfl⟩ := e
               rw [hc, HGA.out])
             have HV7 := Lib.hid h1
             have HU7 := Lib.hid h2
             clear h1 h2 h3 h4))
      all_goals
        go_wp2_with fail
        go_roundg (N - (j + 1))
        case measure => omega
        case rel => exact ⟨j + 1, _, rfl, by omega, by go_num, HV7, HU7, HI7⟩
    · obtain rfl : j = N := by omega
      go_wp2_with fail
      go_ret
      have hv := HV.out
      rw [HT.out] at hv
      exact ⟨_, ss, rfl, hv, HU.out⟩
end
end Go.Proofs.YtpkbdmieelgdlaaGreat
