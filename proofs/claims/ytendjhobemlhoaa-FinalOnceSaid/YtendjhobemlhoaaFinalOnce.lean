/- The walk of FinalOnce: at every input the law returns true, and nothing that was there has turned. -/
import Derived.Test.YtendjhobemlhoaaFPure
namespace Go.Proofs.Ytendjhobemlhoaa
open Go Go.RowKit

theorem HeapO.inner {w : World} {h np : Nat} {l : List Int} {F : Int → Ob} {O : Nat → Prop} (H : HeapO w h np l F O) {a d : Int} (ha : a ∈ l) (h0 : 0 < d) (hd : d ≤ (F a).ws.length) : a + d ∉ l := fun hm => by
  obtain ⟨t, s, L, S, H, _, rfl⟩ := H
  obtain ⟨m, hm1, hst⟩ := H.objs.ob a ha
  obtain ⟨m2, hm2, _⟩ := H.objs.ob (a + d) hm
  have fb := find_block H.space.wf hm1
  have := fb.2.2.2.2 (a + d) (by omega) (by have := hst.room; omega)
  rw [hm2] at this
  simp only [Prod.mk.injEq] at this
  omega
/-- Of the objects of L each one waits, or is wanted. -/
structure Parts (L ws want : List Int) : Prop where
  nodup : ws.Nodup
  sum : ws.length + want.length = L.length
  part : ∀ a ∈ L, (a ∈ ws ↔ a ∉ want)
  sub : ∀ a ∈ want, a ∈ L
theorem Parts.start {L : List Int} (h : L.Nodup) : Parts L L [] := ⟨h, rfl, fun a ha => by simp [ha], by simp⟩
theorem Parts.put {L ws want : List Int} (h : Parts L ws want) {a : Int} (ha : a ∈ ws) (hL : a ∈ L) : Parts L (ws.erase a) (want ++ [a]) := by
  refine ⟨h.nodup.erase a, ?_, fun b hb => ?_, fun b hb => ?_⟩
  · have h1 := List.length_erase_of_mem ha
    have h2 := List.length_pos_of_mem ha
    have h3 := h.sum
    simp only [List.length_append, List.length_cons, List.length_nil]
    omega
  · rw [h.nodup.mem_erase_iff, h.part b hb, List.mem_append, List.mem_singleton]
    constructor
    · rintro ⟨h1, h2⟩ (h3 | h3)
      · exact h2 h3
      · exact h1 h3
    · intro h1
      exact ⟨fun e => h1 (.inr e), fun e => h1 (.inl e)⟩
  · rcases List.mem_append.1 hb with h1 | h1
    · exact h.sub b h1
    · rw [List.mem_singleton.1 h1]; exact hL
theorem pend_one {ws ps : List Int} {a : Int} (h : a ∈ ws) : pendZ (ws, ps) [a] = (ws.erase a, ps ++ [a]) := if_pos h
theorem pend_no {ws ps : List Int} {a : Int} (h : a ∉ ws) : pendZ (ws, ps) [a] = (ws, ps) := if_neg h
theorem pend_no2 {ws ps : List Int} {a : Int} (h : a ∉ ws) : pendZ (ws, ps) [a, a] = (ws, ps) := by
  show pend1 (pend1 (ws, ps) a) a = _
  rw [show pend1 (ws, ps) a = (ws, ps) from if_neg h]
  exact if_neg h

set_option maxRecDepth 100000 in
set_option maxHeartbeats 12800000 in
theorem once15_walk (A : Option Addr) (cap : Nat) (xs : List Int) (ag : Bool) (w : World) (hR : Reads w .u8 A xs) (hxs : ∀ x ∈ xs, 0 ≤ x ∧ x ≤ 255) :
    Calls Try.prog 3 #[.slice A xs.length cap, .bool ag] w fun e w' => e = .returned (.bool true) ∧ Below w.heap.size w w' := by
  obtain ⟨N, hN⟩ : ∃ N, xs.length = N := ⟨_, rfl⟩
  rw [hN]
  have HN := Lib.hid hN
  have HRD := Lib.hid hR
  have HXS := Lib.hid hxs
  clear hN hR hxs
  go_enter Try.func3, Try.ntmps3
  go_wp2_with fail
  refine (made15 6 _ (by omega)).mono ?_
  rintro e w1 ⟨h, f, v, l, F, O, rfl, hr, ho, he, hl⟩
  have HLL : Hid (l.length = 7) := Lib.hid hl.len
  obtain ⟨A0, cap0, hv, hI0, _⟩ := ho.own.form
  rw [HLL.out] at hv
  subst hv
  obtain ⟨b0, off0, rfl, hb0, _⟩ := Reads.at (k := .i64) hI0 HLL.out (by omega : 0 < 7)
  have hcap : 7 ≤ cap0 := by
    rcases own_cases ho.own with ⟨e, _⟩ | ⟨g, c, e, _, h1, _⟩
    · cases e
    · rw [HLL.out] at e h1
      simp only [Value.slice.injEq] at e
      omega
  have hcap6 : 6 ≤ cap0 := by omega
  have hcapi : (6 : Int) ≤ (cap0 : Int) := by omega
  have HND := Lib.hid hr.nodup
  have HT6 : Hid ((l.take 6).length = 6) := Lib.hid (by rw [List.length_take, HLL.out]; rfl)
  have HR : Hid (FinO w1 f h 40 l F (l.take 0) [] O) := Lib.hid hr
  have HW := Lib.hid hl.waits
  have HO := Lib.hid ho
  have HE := Lib.hid he
  have HSZ := Lib.hid he.upd.size
  clear hr ho he hl hI0
  go_wp2_with fail
  go_loopg [8] 6 (fun gk i wr => ∃ (k : Nat) (F : Int → Ob) (O : Nat → Prop), gk = 6 - k ∧ k ≤ 6 ∧ i = .int .i64 k ∧ Hid (FinO wr f h 40 l F (l.take k) [] O) ∧ Hid (OwnA wr w.heap.size (.slice (some ⟨b0, off0, none⟩) 7 cap0) l O) ∧ Hid (Env w wr O) ∧ Hid (Waits l F 6 k) ∧ Hid (w1.heap.size ≤ wr.heap.size))
  case atStart => exact ⟨0, F, O, rfl, by omega, rfl, HR, HO, HE, HW, Lib.hid (Nat.le_refl _)⟩
  case round =>
    clear HR HO HE HW
    obtain ⟨k, F, O, rfl, hk, rfl, HR, HO, HE, HW, HZ⟩ := hrel
    by_cases hlt : k < 6
    · have hc0 := owna_cell HO.out HLL.out (by omega : k < 7)
      have HD := Lib.hid (HW.out.data k (Nat.le_refl _) hlt)
      have HA := Lib.hid (getD_mem (r := l) (i := k) (by rw [HLL.out]; omega))
      have HW2 := Lib.hid (HW.out.put HND.out (i := k) hlt)
      have HDN := Lib.hid (HW2.out.done k (by omega) hlt)
      have HTK := Lib.hid (take_push (l := l) (j := k) (by rw [HLL.out]; omega))
      obtain ⟨a, ha⟩ : ∃ a, l.getD k 0 = a := ⟨_, rfl⟩
      rw [ha] at hc0 HD HA HW2 HDN HTK
      have HAE := Lib.hid ha
      clear ha
      go_wp2_with fail
      refine (await_yes f h 40 a _ HR.out HA.out (by rw [HD.out]; simp) (by rw [HD.out]) (by rw [List.length_take]; omega)).mono ?_
      rintro e w2 ⟨rfl, O2, hr, hs⟩
      rw [HTK.out] at hr
      generalize fset F a { F a with f := true } = F2 at *
      have HR2 := Lib.hid hr
      have HO2 := Lib.hid (HO.out.step hs)
      have HE2 := Lib.hid (HE.out.step hs)
      have HZ2 := Lib.hid (Nat.le_trans HZ.out hs.size)
      have hc2 : w2.cell? ⟨b0, off0 + k, none⟩ = some (.int .i64 a) := by rw [← HAE.out]; exact owna_cell HO2.out HLL.out (by omega : k < 7)
      clear hr hs hc0 HR HO HE HW HZ
      go_wp2_with fail
      refine (err_calls 0 _ (by omega)).mono ?_
      rintro e w' ⟨rfl, rfl⟩
      go_wp2_with fail
      refine (await_no f h 40 a 4 _ HR2.out (.inr ⟨HA.out, .inr ⟨HDN.out.1, HDN.out.2, rfl⟩⟩)).mono ?_
      rintro e w3 ⟨rfl, hu⟩
      have HR3 := Lib.hid (HR2.out.upd0 hu)
      have HO3 := Lib.hid (HO2.out.upd0 hu)
      have HE3 := Lib.hid (HE2.out.upd0 hu)
      have HZ3 := Lib.hid (Nat.le_trans HZ2.out hu.size)
      clear hu hc2
      go_wp2_with fail
      refine (err_calls 4 _ (by omega)).mono ?_
      rintro e w' ⟨rfl, rfl⟩
      go_wp2_with fail
      go_roundg (6 - (k + 1))
      case measure => omega
      case rel => exact ⟨k + 1, F2, O2, rfl, by omega, by go_num, HR3, HO3, HE3, HW2, HZ3⟩
    · obtain rfl : k = 6 := by omega
      obtain ⟨x0, hx0⟩ : ∃ x0, l.getD 0 0 = x0 := ⟨_, rfl⟩
      obtain ⟨z6, hz6⟩ : ∃ z6, l.getD 6 0 = z6 := ⟨_, rfl⟩
      have hx0m : x0 ∈ l := by rw [← hx0]; exact getD_mem (by rw [HLL.out]; omega)
      have hz6m : z6 ∈ l := by rw [← hz6]; exact getD_mem (by rw [HLL.out]; omega)
      have hz6k : (F z6).k = 4 := by rw [← hz6]; exact HW.out.ref
      obtain ⟨Oh, hh⟩ := HR.out.heap
      have hpos := hh.pos hx0m
      have hx64 : 64 ≤ x0 ∧ x0 ≤ 16384 := by omega
      have hin : x0 + 1 ∉ l := by
        have h1 := HW.out.one 0 (by omega)
        rw [hx0] at h1
        exact hh.inner hx0m (by omega) (by omega)
      have HY5 : Hid (z6 ∈ l ∧ ((F z6).k = 4 ∧ (5 : Int) = 5 ∨ (F z6).k ≠ 4 ∧ (F z6).f = true ∧ (5 : Int) = 4)) := Lib.hid ⟨hz6m, .inl ⟨hz6k, rfl⟩⟩
      have HY2 := Lib.hid hin
      have k4 : wr.cell? ⟨b0, off0 + 6, none⟩ = some (.int .i64 z6) := by rw [← hz6]; exact owna_cell HO.out HLL.out (by omega : 6 < 7)
      have j4 : wr.cell? ⟨b0, off0, none⟩ = some (.int .i64 x0) := by rw [← hx0]; exact owna_cell HO.out HLL.out (by omega : 0 < 7)
      have hb4 : b0 < wr.heap.size := (World.ownsRow.lt HO.out.own b0 rfl).2
      have HCE := Lib.hid (And.intro k4 (And.intro j4 hb4))
      have HAW := Lib.hid (fun W (hW : Upd [] wr W) (a y : Int) hy => await_no f h 40 a y W (HR.out.upd0 hW) hy)
      have HFI := Lib.hid (fun W (hW : Upd [] wr W) => finals_yes f h 40 W (HR.out.upd0 hW) (by rw [HT6.out]; omega))
      have HI4 := Lib.hid (HO.out.ints.take 6)
      have HWR : Hid (IntKind.i64.wrap (x0 + 1) = x0 + 1) := Lib.hid (IntWalk.i64_in _ (by omega))
      clear hx0 hz6 hx0m hz6m hz6k hh hpos hin Oh
      go_upto_region 9 with fail
      go_region_held3 (fun w' => w'.cell? ⟨b0, off0 + 6, none⟩ = some (.int .i64 z6) ∧ w'.cell? ⟨b0, off0, none⟩ = some (.int .i64 x0)) (first | exact ⟨k4, j4⟩ | exact ⟨k5, j5⟩ | exact ⟨k6, j6⟩ | exact ⟨k7, j7⟩ | exact ⟨k8, j8⟩)
        (first
          | (go_at_call 17; refine (err_calls _ _ (by omega)).mono ?_; rintro e w' ⟨rfl, rfl⟩)
          | (go_at_call 18; (with_reducible refine (HAW.out _ (Upd.refl [] wr).drew z6 5 (.inr HY5.out)).mono ?_); rintro e w5 ⟨rfl, hu5⟩
             have HU5 : Hid (Upd [] wr w5) := Lib.hid ((Upd.refl [] wr).drew.trans hu5)
             have k5 : w5.cell? ⟨b0, off0 + 6, none⟩ = some (.int .i64 z6) := (HU5.out.cell (p := ⟨b0, off0 + 6, none⟩) HCE.out.2.2 (by simp)).trans HCE.out.1
             have j5 : w5.cell? ⟨b0, off0, none⟩ = some (.int .i64 x0) := (HU5.out.cell (p := ⟨b0, off0, none⟩) HCE.out.2.2 (by simp)).trans HCE.out.2.1
             clear hu5)
          | (go_at_call 18; (try rw [HWR.out]); (with_reducible refine (HAW.out _ HU5.out (x0 + 1) 2 (.inl ⟨HY2.out, rfl⟩)).mono ?_); rintro e w6 ⟨rfl, hu6⟩
             have HU6 : Hid (Upd [] wr w6) := Lib.hid (HU5.out.trans hu6)
             have k6 : w6.cell? ⟨b0, off0 + 6, none⟩ = some (.int .i64 z6) := (HU6.out.cell (p := ⟨b0, off0 + 6, none⟩) HCE.out.2.2 (by simp)).trans HCE.out.1
             have j6 : w6.cell? ⟨b0, off0, none⟩ = some (.int .i64 x0) := (HU6.out.cell (p := ⟨b0, off0, none⟩) HCE.out.2.2 (by simp)).trans HCE.out.2.1
             clear hu6)
          | (go_at_call 20; refine (HFI.out _ HU6.out).mono ?_; rintro e w7 ⟨v7, rfl, ho7, hu7⟩
             obtain ⟨A7, cap7, hv7, hI7, _⟩ := ho7.form
             rw [HT6.out] at hv7
             subst hv7
             have HU7 : Hid (Upd [] wr w7) := Lib.hid (HU6.out.trans hu7)
             have HI7 := Lib.hid hI7
             have HI8 := Lib.hid (Reads.upd (k := .i64) HI4.out HU7.out (by simp))
             have k7 : w7.cell? ⟨b0, off0 + 6, none⟩ = some (.int .i64 z6) := (HU7.out.cell (p := ⟨b0, off0 + 6, none⟩) HCE.out.2.2 (by simp)).trans HCE.out.1
             have j7 : w7.cell? ⟨b0, off0, none⟩ = some (.int .i64 x0) := (HU7.out.cell (p := ⟨b0, off0, none⟩) HCE.out.2.2 (by simp)).trans HCE.out.2.1
             clear hu7 ho7 hI7)
          | (go_at_call 19; refine (same_calls A7 (some ⟨b0, off0, none⟩) 6 6 cap7 _ (l.take 6) (l.take 6) w7 HT6.out HT6.out HI7.out HI8.out (by omega) (by omega)).mono ?_; rintro e w8 ⟨he8, q8, rfl⟩
             rw [decide_eq_true rfl] at he8
             subst he8
             have k8 : (w7.drewN q8).cell? ⟨b0, off0 + 6, none⟩ = some (.int .i64 z6) := k7
             have j8 : (w7.drewN q8).cell? ⟨b0, off0, none⟩ = some (.int .i64 x0) := j7))
      all_goals
        clear k4 j4 k5 j5 k6 j6 k7 j7 k8 j8
        have HU8 := Lib.hid (HU7.out.drewN q8)
        have HR8 : Hid (FinO (w7.drewN q8) f h 40 l F (l.take 6) [] O) := Lib.hid (HR.out.upd0 HU8.out)
        have HO8 := Lib.hid (HO.out.upd0 HU8.out)
        have HE8 := Lib.hid (HE.out.upd0 HU8.out)
        have HZ8 := Lib.hid (Nat.le_trans HZ.out HU8.out.size)
        have HPT8 := Lib.hid (Parts.start (List.Nodup.sublist (List.take_sublist 6 l) HND.out))
        clear HR HO HE HZ HU5 HU6 HU7 HU8 HI4 HI7 HI8 HAW HFI HCE HY5 HY2 HWR hx64 hb4
        go_wp2_with fail
        go_loopg [9, 10] 12 (fun gk va i wr => ∃ (k : Nat) (ws want : List Int) (O : Nat → Prop), gk = 12 - k ∧ k ≤ 12 ∧ i = .int .i64 k ∧ Hid (FinO wr f h 40 l F ws want O) ∧ Hid (OwnA wr w.heap.size (.slice (some ⟨b0, off0, none⟩) 7 cap0) l O) ∧ Hid (OwnA wr w1.heap.size va want O) ∧ Hid (Env w wr O) ∧ Hid (Parts (l.take 6) ws want) ∧ Hid (w1.heap.size ≤ wr.heap.size))
        case atStart => exact ⟨0, _, _, O, rfl, by omega, rfl, HR8, HO8, Lib.hid (OwnA.nil _ _ _), HE8, HPT8, HZ8⟩
        case round =>
          clear HR8 HO8 HE8 HPT8 HZ8
          obtain ⟨k, ws, want, O, rfl, hk, rfl, HR, HO, HP, HE, HPT, HZ⟩ := hrel
          have HSUM : Hid (ws.length + want.length = 6) := Lib.hid (by rw [HPT.out.sum, HT6.out])
          by_cases hltN : k < N
          · by_cases hlt12 : k < 12
            · obtain ⟨b, off, rfl, hb, hcell⟩ := (HRD.out.upd HE.out.upd (by simp)).at HN.out hltN
              have hy := HXS.out _ (getD_mem (by rw [HN.out]; exact hltN))
              obtain ⟨y, hyy⟩ : ∃ y : Nat, xs.getD k 0 = y := ⟨(xs.getD k 0).toNat, by omega⟩
              rw [hyy] at hcell hy
              clear hyy
              have hy255 : y ≤ 255 := by omega
              clear hy
              obtain ⟨D, hD⟩ : ∃ D : Nat, (y : Int) % 6 = D := ⟨y % 6, by omega⟩
              have hD6 : D < 6 := by omega
              have hc0 := owna_cell HO.out HLL.out (by omega : D < 7)
              have HAM : Hid (l.getD D 0 ∈ l.take 6) := Lib.hid (by
                have : (l.take 6).getD D 0 = l.getD D 0 := by rw [List.getD_eq_getElem?_getD, List.getD_eq_getElem?_getD, List.getElem?_take_of_lt hD6]
                rw [← this]
                exact getD_mem (by rw [HT6.out]; exact hD6))
              generalize l.getD D 0 = a at *
              by_cases hw : a ∈ ws
              · have HNW : Hid (a ∉ want) := Lib.hid ((HPT.out.part a HAM.out).1 hw)
                have HPT2 := Lib.hid (HPT.out.put hw HAM.out)
                have HWA := Lib.hid hw
                have HSUM2 : Hid ((ws.erase a).length + (want ++ [a]).length = 6) := Lib.hid (by rw [HPT2.out.sum, HT6.out])
                have HNE : Hid (a ∉ ws.erase a) := Lib.hid (fun e => by
                  have := (HPT.out.nodup.mem_erase_iff).1 e
                  exact this.1 rfl)
                clear hw
                -- those that wait then, those that are pending then, why
                have HPZ : Hid (pendZ (ws, want) [a] = ((ws.erase a), (want ++ [a]))) := Lib.hid (pend_one HWA.out)
                have hsz : ∀ k, O k → k < wr.heap.size := fun k hk => HR.out.owned hk
                have HU1 : Hid (Upd [] wr (wr.alloc (.cells #[.int .i64 a] 3))) := Lib.hid ((Upd.refl [] wr).alloc _)
                have HRD1 : Hid (ReadsO (wr.alloc (.cells #[.int .i64 a] 3)) (some ⟨wr.heap.size, 0, none⟩) [a] O) := Lib.hid (reads_one (Blk.new _ _ _) fun hx => by have := hsz _ hx; omega)
                clear hsz
                go_wp2_with fail
                refine (pend_yes f h 40 (some ⟨wr.heap.size, 0, none⟩) [a] 1 1 _ (HR.out.upd0 HU1.out) HRD1.out rfl (by have := HSUM.out; omega) (by omega)).mono ?_
                rintro e w3 ⟨rfl, O3, hr, hs⟩
                rw [HPZ.out] at hr
                have HR3 := Lib.hid hr
                have HO3 := Lib.hid ((HO.out.upd0 HU1.out).step hs)
                have HP3 := Lib.hid ((HP.out.upd0 HU1.out).step hs)
                have HE3 := Lib.hid ((HE.out.upd0 HU1.out).step hs)
                have HZ3 := Lib.hid (Nat.le_trans (Nat.le_trans HZ.out HU1.out.size) hs.size)
                clear hr hs HPZ HRD1 HU1 HR HO HP HE HZ hcell hc0
                cases ag
                · -- the number of the facts: it is new
                  obtain ⟨Aw, capw, hvw, hIw, _⟩ := HP3.out.own.form
                  subst hvw
                  have HIN := Lib.hid ((in_walk Aw want capw a w3 hIw (by have := HSUM.out; omega)).mono fun e w' h => (⟨h.1, h.2.symm⟩ : e = .returned (.bool (decide (a ∈ want))) ∧ w3 = w'))
                  clear hIw
                  go_wp2_with fail
                  refine (HIN.out).mono ?_
                  rintro e w' ⟨rfl, rfl⟩
                  rw [decide_eq_false HNW.out]
                  go_wp2_with (at_builtin; refine wpList_pushO rfl _ _ rfl w1.heap.size _ want O3 rfl (HP3.out.upd0 ((Upd.refl [] w3).alloc _)) w3.heap.size a rfl (Blk.new _ _ _) (by have := HSUM.out; omega) (by have := HZ3.out; simp; omega) (fun k hk => by have := HR3.out.owned hk; simp; omega) ?_)
                  intro v' w9 E h1 h2 h3 h4
                  have hE : ∀ i ∈ E, w1.heap.size ≤ i ∧ ¬ O3 i := fun i hi => ⟨(World.ownsRow.lt HP3.out.own i (h2 i hi)).1, HP3.out.far i (h2 i hi)⟩
                  have HR9 := Lib.hid ((HR3.out.upd0 ((Upd.refl [] w3).alloc _)).upd h3 fun i hi => (hE i hi).2)
                  have HE9 := Lib.hid ((HE3.out.upd0 ((Upd.refl [] w3).alloc _)).upd' h3 fun i hi => Nat.le_trans HSZ.out (hE i hi).1)
                  have HO9 := Lib.hid ((HO3.out.upd0 ((Upd.refl [] w3).alloc _)).updE h3 fun i hi e => by
                    simp only [Value.ownBlock, Option.some.injEq] at e
                    have := (hE i hi).1
                    omega)
                  have HP9 := Lib.hid h1
                  have HZ9 : Hid (w1.heap.size ≤ w9.heap.size) := Lib.hid (by have := HZ3.out; have := h3.size; simp at this; omega)
                  clear h1 h2 h3 h4 hE
                  go_wp2_with fail
                  go_roundg (12 - (k + 1))
                  case measure => omega
                  case rel => exact ⟨k + 1, _, _, O3, rfl, by omega, by go_num, HR9, HO9, HP9, HE9, HPT2, HZ9⟩
                · -- those that wait, those that are pending, why not
                  have HPZ : Hid (pendZ ((ws.erase a), (want ++ [a])) [a, a] = ((ws.erase a), (want ++ [a]))) := Lib.hid (pend_no2 HNE.out)
                  have hsz : ∀ k, O3 k → k < w3.heap.size := fun k hk => HR3.out.owned hk
                  have HU1 : Hid (Upd [] w3 (w3.alloc (.cells #[.int .i64 a, .int .i64 a] 3))) := Lib.hid ((Upd.refl [] w3).alloc _)
                  have HRD1 : Hid (ReadsO (w3.alloc (.cells #[.int .i64 a, .int .i64 a] 3)) (some ⟨w3.heap.size, 0, none⟩) [a, a] O3) := Lib.hid (reads_blk (Blk.new _ _ _) fun hx => by have := hsz _ hx; omega)
                  clear hsz
                  go_wp2_with fail
                  refine (pend_yes f h 40 (some ⟨w3.heap.size, 0, none⟩) [a, a] 2 2 _ (HR3.out.upd0 HU1.out) HRD1.out rfl (by have := HSUM2.out; omega) (by omega)).mono ?_
                  rintro e w4 ⟨rfl, O4, hr, hs⟩
                  rw [HPZ.out] at hr
                  have HR4 := Lib.hid hr
                  have HO4 := Lib.hid ((HO3.out.upd0 HU1.out).step hs)
                  have HP4 := Lib.hid ((HP3.out.upd0 HU1.out).step hs)
                  have HE4 := Lib.hid ((HE3.out.upd0 HU1.out).step hs)
                  have HZ4 := Lib.hid (Nat.le_trans (Nat.le_trans HZ3.out HU1.out.size) hs.size)
                  clear hr hs HPZ HRD1 HU1 HR3 HO3 HP3 HE3 HZ3
                  -- the number of the facts: it is new
                  obtain ⟨Aw, capw, hvw, hIw, _⟩ := HP4.out.own.form
                  subst hvw
                  have HIN := Lib.hid ((in_walk Aw want capw a w4 hIw (by have := HSUM.out; omega)).mono fun e w' h => (⟨h.1, h.2.symm⟩ : e = .returned (.bool (decide (a ∈ want))) ∧ w4 = w'))
                  clear hIw
                  go_wp2_with fail
                  refine (HIN.out).mono ?_
                  rintro e w' ⟨rfl, rfl⟩
                  rw [decide_eq_false HNW.out]
                  go_wp2_with (at_builtin; refine wpList_pushO rfl _ _ rfl w1.heap.size _ want O4 rfl (HP4.out.upd0 ((Upd.refl [] w4).alloc _)) w4.heap.size a rfl (Blk.new _ _ _) (by have := HSUM.out; omega) (by have := HZ4.out; simp; omega) (fun k hk => by have := HR4.out.owned hk; simp; omega) ?_)
                  intro v' w9 E h1 h2 h3 h4
                  have hE : ∀ i ∈ E, w1.heap.size ≤ i ∧ ¬ O4 i := fun i hi => ⟨(World.ownsRow.lt HP4.out.own i (h2 i hi)).1, HP4.out.far i (h2 i hi)⟩
                  have HR9 := Lib.hid ((HR4.out.upd0 ((Upd.refl [] w4).alloc _)).upd h3 fun i hi => (hE i hi).2)
                  have HE9 := Lib.hid ((HE4.out.upd0 ((Upd.refl [] w4).alloc _)).upd' h3 fun i hi => Nat.le_trans HSZ.out (hE i hi).1)
                  have HO9 := Lib.hid ((HO4.out.upd0 ((Upd.refl [] w4).alloc _)).updE h3 fun i hi e => by
                    simp only [Value.ownBlock, Option.some.injEq] at e
                    have := (hE i hi).1
                    omega)
                  have HP9 := Lib.hid h1
                  have HZ9 : Hid (w1.heap.size ≤ w9.heap.size) := Lib.hid (by have := HZ4.out; have := h3.size; simp at this; omega)
                  clear h1 h2 h3 h4 hE
                  go_wp2_with fail
                  go_roundg (12 - (k + 1))
                  case measure => omega
                  case rel => exact ⟨k + 1, _, _, O4, rfl, by omega, by go_num, HR9, HO9, HP9, HE9, HPT2, HZ9⟩
              · have HNW : Hid (a ∈ want) := Lib.hid (Classical.byContradiction fun e => hw ((HPT.out.part a HAM.out).2 e))
                have HWA := Lib.hid hw
                have HSUM2 := HSUM
                clear hw
                -- those that wait then, those that are pending then, why
                have HPZ : Hid (pendZ (ws, want) [a] = (ws, want)) := Lib.hid (pend_no HWA.out)
                have hsz : ∀ k, O k → k < wr.heap.size := fun k hk => HR.out.owned hk
                have HU1 : Hid (Upd [] wr (wr.alloc (.cells #[.int .i64 a] 3))) := Lib.hid ((Upd.refl [] wr).alloc _)
                have HRD1 : Hid (ReadsO (wr.alloc (.cells #[.int .i64 a] 3)) (some ⟨wr.heap.size, 0, none⟩) [a] O) := Lib.hid (reads_one (Blk.new _ _ _) fun hx => by have := hsz _ hx; omega)
                clear hsz
                go_wp2_with fail
                refine (pend_yes f h 40 (some ⟨wr.heap.size, 0, none⟩) [a] 1 1 _ (HR.out.upd0 HU1.out) HRD1.out rfl (by have := HSUM.out; omega) (by omega)).mono ?_
                rintro e w3 ⟨rfl, O3, hr, hs⟩
                rw [HPZ.out] at hr
                have HR3 := Lib.hid hr
                have HO3 := Lib.hid ((HO.out.upd0 HU1.out).step hs)
                have HP3 := Lib.hid ((HP.out.upd0 HU1.out).step hs)
                have HE3 := Lib.hid ((HE.out.upd0 HU1.out).step hs)
                have HZ3 := Lib.hid (Nat.le_trans (Nat.le_trans HZ.out HU1.out.size) hs.size)
                clear hr hs HPZ HRD1 HU1 HR HO HP HE HZ hcell hc0
                cases ag
                · -- the number of the facts: it is there
                  obtain ⟨Aw, capw, hvw, hIw, _⟩ := HP3.out.own.form
                  subst hvw
                  have HIN := Lib.hid ((in_walk Aw want capw a w3 hIw (by have := HSUM.out; omega)).mono fun e w' h => (⟨h.1, h.2.symm⟩ : e = .returned (.bool (decide (a ∈ want))) ∧ w3 = w'))
                  clear hIw
                  go_wp2_with fail
                  refine (HIN.out).mono ?_
                  rintro e w' ⟨rfl, rfl⟩
                  rw [decide_eq_true HNW.out]
                  go_wp2_with fail
                  go_roundg (12 - (k + 1))
                  case measure => omega
                  case rel => exact ⟨k + 1, _, _, O3, rfl, by omega, by go_num, HR3, HO3, HP3, HE3, HPT, HZ3⟩
                · -- those that wait, those that are pending, why not
                  have HPZ : Hid (pendZ (ws, want) [a, a] = (ws, want)) := Lib.hid (pend_no2 HWA.out)
                  have hsz : ∀ k, O3 k → k < w3.heap.size := fun k hk => HR3.out.owned hk
                  have HU1 : Hid (Upd [] w3 (w3.alloc (.cells #[.int .i64 a, .int .i64 a] 3))) := Lib.hid ((Upd.refl [] w3).alloc _)
                  have HRD1 : Hid (ReadsO (w3.alloc (.cells #[.int .i64 a, .int .i64 a] 3)) (some ⟨w3.heap.size, 0, none⟩) [a, a] O3) := Lib.hid (reads_blk (Blk.new _ _ _) fun hx => by have := hsz _ hx; omega)
                  clear hsz
                  go_wp2_with fail
                  refine (pend_yes f h 40 (some ⟨w3.heap.size, 0, none⟩) [a, a] 2 2 _ (HR3.out.upd0 HU1.out) HRD1.out rfl (by have := HSUM2.out; omega) (by omega)).mono ?_
                  rintro e w4 ⟨rfl, O4, hr, hs⟩
                  rw [HPZ.out] at hr
                  have HR4 := Lib.hid hr
                  have HO4 := Lib.hid ((HO3.out.upd0 HU1.out).step hs)
                  have HP4 := Lib.hid ((HP3.out.upd0 HU1.out).step hs)
                  have HE4 := Lib.hid ((HE3.out.upd0 HU1.out).step hs)
                  have HZ4 := Lib.hid (Nat.le_trans (Nat.le_trans HZ3.out HU1.out.size) hs.size)
                  clear hr hs HPZ HRD1 HU1 HR3 HO3 HP3 HE3 HZ3
                  -- the number of the facts: it is there
                  obtain ⟨Aw, capw, hvw, hIw, _⟩ := HP4.out.own.form
                  subst hvw
                  have HIN := Lib.hid ((in_walk Aw want capw a w4 hIw (by have := HSUM.out; omega)).mono fun e w' h => (⟨h.1, h.2.symm⟩ : e = .returned (.bool (decide (a ∈ want))) ∧ w4 = w'))
                  clear hIw
                  go_wp2_with fail
                  refine (HIN.out).mono ?_
                  rintro e w' ⟨rfl, rfl⟩
                  rw [decide_eq_true HNW.out]
                  go_wp2_with fail
                  go_roundg (12 - (k + 1))
                  case measure => omega
                  case rel => exact ⟨k + 1, _, _, O4, rfl, by omega, by go_num, HR4, HO4, HP4, HE4, HPT, HZ4⟩
            · have h12' : ¬ (k : Int) < 12 := by omega
              go_wp2_with fail
              refine (pending_yes f h 40 _ HR.out (by have := HPT.out.sum; rw [HT6.out] at this; omega)).mono ?_
              rintro e w3 ⟨v3, rfl, ho3, hu3⟩
              obtain ⟨Aw, capw, hvw, hIw, _⟩ := HP.out.own.form
              obtain ⟨L1, hL1⟩ : ∃ L1, want.length = L1 := ⟨_, rfl⟩
              rw [hL1] at hvw
              subst hvw
              obtain ⟨A3, cap3, hv3, hI3, _⟩ := ho3.form
              rw [hL1] at hv3
              subst hv3
              have HLW := Lib.hid hL1
              have hL6 : L1 ≤ 6 := by have := HPT.out.sum; rw [HT6.out] at this; omega
              have HI3 := Lib.hid hI3
              have HIW3 := Lib.hid (Reads.upd (k := .i64) hIw hu3 (by simp))
              have HR3 := Lib.hid (HR.out.upd0 hu3)
              have HO3 := Lib.hid (HO.out.upd0 hu3)
              have HP3 := Lib.hid (HP.out.upd0 hu3)
              have HE3 := Lib.hid (HE.out.upd0 hu3)
              clear ho3 hI3 hIw hu3 hL1 HR HO HP HE
              go_wp2_with fail
              refine (same_calls A3 Aw L1 L1 cap3 capw want want w3 HLW.out HLW.out HI3.out HIW3.out (by omega) (by omega)).mono ?_
              rintro e w4 ⟨he6, q6, rfl⟩
              rw [decide_eq_true rfl] at he6
              subst he6
              have HWS : Hid (ws.length = 6 - L1) := Lib.hid (by have := HPT.out.sum; rw [HT6.out, HLW.out] at this; omega)
              obtain ⟨W1, hW1⟩ : ∃ W1, 6 - L1 = W1 := ⟨_, rfl⟩
              have hW1' : W1 + L1 = 6 := by omega
              have hW1i : (6 : Int) - L1 = W1 := by omega
              rw [hW1] at HWS
              clear hW1
              go_wp2_with fail
              refine (finals_yes f h 40 _ (HR3.out.upd0 ((Upd.refl [] w3).drewN q6)) (by rw [HWS.out]; omega)).mono ?_
              rintro e w5 ⟨v5, rfl, ho5, hu5⟩
              obtain ⟨A5, cap5, hv5, _, _⟩ := ho5.form
              rw [HWS.out] at hv5
              subst hv5
              have hu6 := ((Upd.refl [] w3).drewN q6).trans hu5
              have HR : Hid (FinO w5 f h 40 l F ws (want.drop 0) O) := Lib.hid (HR3.out.upd0 hu6)
              have HO := Lib.hid (HO3.out.upd0 hu6)
              have HP := Lib.hid (HP3.out.upd0 hu6)
              have HE := Lib.hid (HE3.out.upd0 hu6)
              clear ho5 hu5 hu6 HR3 HO3 HP3 HE3
              go_wp2_with fail
              clear hW1i
              go_loopg [12] L1 (fun gk i wr => ∃ (k : Nat) (O : Nat → Prop), gk = L1 - k ∧ k ≤ L1 ∧ i = .int .i64 k ∧ Hid (FinO wr f h 40 l F ws (want.drop k) O) ∧ Hid (OwnA wr w1.heap.size (.slice Aw L1 capw) want O) ∧ Hid (Env w wr O))
              case atStart => exact ⟨0, O, rfl, by omega, rfl, HR, HP, HE⟩
              case round =>
                clear HR HO HP HE
                obtain ⟨k, O, rfl, hk, rfl, HR, HP, HE⟩ := hrel
                by_cases hlt : k < L1
                · have hd : want.drop k = want.getD k 0 :: want.drop (k + 1) := by
                    rw [List.drop_eq_getElem_cons (by rw [HLW.out]; exact hlt), List.getD_eq_getElem?_getD, List.getElem?_eq_getElem (by rw [HLW.out]; exact hlt)]
                    rfl
                  have hT : (want.drop k).getD 0 0 = want.getD k 0 ∧ (want.drop k).eraseIdx 0 = want.drop (k + 1) ∧ 0 < (want.drop k).length ∧ (want.drop k).length ≤ 100000 := by
                    refine ⟨by rw [hd]; rfl, by rw [hd]; rfl, by rw [hd]; simp, ?_⟩
                    rw [List.length_drop, HLW.out]; omega
                  have HTT := Lib.hid hT
                  obtain ⟨A6, cap6, hv6, hI6, _⟩ := HP.out.own.form
                  simp only [Value.slice.injEq] at hv6
                  rw [← hv6.1] at hI6
                  obtain ⟨b2, off2, hbb, hb2, hc2⟩ := Reads.at (k := .i64) hI6 HLW.out hlt
                  have hxm : want.getD k 0 ∈ want := getD_mem (by rw [HLW.out]; exact hlt)
                  have hx6 := HPT.out.sub _ hxm
                  obtain ⟨jx, hjx, hex⟩ := List.mem_iff_getElem.1 hx6
                  have hj6 : jx < 6 := by rw [HT6.out] at hjx; exact hjx
                  have hel : l.getD jx 0 = want.getD k 0 := by
                    rw [← hex, List.getElem_take, List.getD_eq_getElem?_getD, List.getElem?_eq_getElem (by rw [HLL.out]; omega)]; rfl
                  have HXF : Hid (want.getD k 0 ∈ l ∧ (F (want.getD k 0)).k ≠ 4 ∧ (F (want.getD k 0)).f = true) := Lib.hid (by
                    have := HW.out.done jx hj6 hj6
                    rw [hel] at this
                    exact ⟨by rw [← hel]; exact getD_mem (by rw [HLL.out]; omega), this.1, this.2⟩)
                  clear hd hT hI6 hv6 hxm hx6 hex hel hjx hj6
                  go_wp2_with fail
                  refine (ftake_yes f h 40 0 0 _ HR.out rfl HTT.out.2.2.1 HTT.out.2.2.2).mono ?_
                  rintro e w6 ⟨rfl, O6, hr, hs⟩
                  rw [HTT.out.1]
                  rw [HTT.out.2.1] at hr
                  obtain ⟨x, hx⟩ : ∃ x, want.getD k 0 = x := ⟨_, rfl⟩
                  rw [hx] at HXF
                  rw [hx]
                  have HR6 := Lib.hid hr
                  have HP6 := Lib.hid (HP.out.step hs)
                  have HE6 := Lib.hid (HE.out.step hs)
                  clear hr hs hc2
                  obtain ⟨A7, cap7, hv7, hI7, _⟩ := HP6.out.own.form
                  simp only [Value.slice.injEq] at hv7
                  rw [← hv7.1] at hI7
                  obtain ⟨b7, off7, hbb7, hb7, hc7⟩ := Reads.at (k := .i64) hI7 HLW.out hlt
                  rw [hbb] at hbb7
                  simp only [Option.some.injEq, Addr.mk.injEq, and_true] at hbb7
                  obtain ⟨rfl, rfl⟩ := hbb7
                  subst hbb
                  rw [hx] at hc7
                  clear hx hI7 hv7
                  go_wp2_with fail
                  refine (err_calls 0 _ (by omega)).mono ?_
                  rintro e w' ⟨rfl, rfl⟩
                  go_wp2_with fail
                  refine (await_no f h 40 x 4 _ HR6.out (.inr ⟨HXF.out.1, .inr ⟨HXF.out.2.1, HXF.out.2.2, rfl⟩⟩)).mono ?_
                  rintro e w8 ⟨rfl, hu⟩
                  have HR8 := Lib.hid (HR6.out.upd0 hu)
                  have HP8 := Lib.hid (HP6.out.upd0 hu)
                  have HE8 := Lib.hid (HE6.out.upd0 hu)
                  clear hu hc7
                  go_wp2_with fail
                  refine (err_calls 4 _ (by omega)).mono ?_
                  rintro e w' ⟨rfl, rfl⟩
                  go_wp2_with fail
                  go_roundg (L1 - (k + 1))
                  case measure => omega
                  case rel => exact ⟨k + 1, O6, rfl, by omega, by go_num, HR8, HP8, HE8⟩
                · obtain rfl : L1 = k := by omega
                  have hdl : want.drop L1 = [] := List.drop_of_length_le (by rw [HLW.out]; exact Nat.le_refl _)
                  rw [hdl] at HR
                  clear hdl
                  go_wp2_with fail
                  refine (ftake_nil 0 _).mono ?_
                  rintro e w' ⟨rfl, rfl⟩
                  have HUN : Hid (Upd [] wr (wr.alloc (.cells #[.int .i64 1] 3))) := Lib.hid ((Upd.refl [] wr).alloc _)
                  go_wp2_with fail
                  refine (pend_nil (some ⟨wr.heap.size, 0, none⟩) 1 1 _).mono ?_
                  rintro e w' ⟨rfl, rfl⟩
                  go_wp2_with fail
                  refine (pending_yes f h 40 _ (HR.out.upd0 HUN.out) (by simp)).mono ?_
                  rintro e w9 ⟨v9, rfl, ho9, hu9⟩
                  obtain ⟨A9, cap9, hv9, _, _⟩ := ho9.form
                  have hv10 : v9 = .slice A9 0 cap9 := hv9
                  subst hv10
                  have HU9 := Lib.hid (HUN.out.trans hu9)
                  clear ho9 hu9 hv9
                  go_wp2_with fail
                  refine (err_calls 1 _ (by omega)).mono ?_
                  rintro e w' ⟨rfl, rfl⟩
                  go_wp2_with fail
                  refine (await_nil 64 _).mono ?_
                  rintro e w' ⟨rfl, rfl⟩
                  go_wp2_with fail
                  refine (err_calls 2 _ (by omega)).mono ?_
                  rintro e w' ⟨rfl, rfl⟩
                  go_wp2_with fail
                  refine (finals_nil _).mono ?_
                  rintro e w' ⟨rfl, rfl⟩
                  go_wp2_with fail
                  refine (pending_nil _).mono ?_
                  rintro e w' ⟨rfl, rfl⟩
                  go_wp2_with fail
                  refine (fin_new_nil _).mono ?_
                  rintro e w' ⟨rfl, rfl⟩
                  go_wp2_with fail
                  refine (awake15 _).mono ?_
                  rintro e w11 ⟨rfl, hu⟩
                  have HU11 := Lib.hid hu
                  clear hu
                  go_wp2_with fail
                  go_ret
                  exact ⟨rfl, (HE.out.upd.trans (HU9.out.trans HU11.out)).below⟩
          · have hNk : ¬ (k : Int) < N := by omega
            go_wp2_with fail
            refine (pending_yes f h 40 _ HR.out (by have := HPT.out.sum; rw [HT6.out] at this; omega)).mono ?_
            rintro e w3 ⟨v3, rfl, ho3, hu3⟩
            obtain ⟨Aw, capw, hvw, hIw, _⟩ := HP.out.own.form
            obtain ⟨L1, hL1⟩ : ∃ L1, want.length = L1 := ⟨_, rfl⟩
            rw [hL1] at hvw
            subst hvw
            obtain ⟨A3, cap3, hv3, hI3, _⟩ := ho3.form
            rw [hL1] at hv3
            subst hv3
            have HLW := Lib.hid hL1
            have hL6 : L1 ≤ 6 := by have := HPT.out.sum; rw [HT6.out] at this; omega
            have HI3 := Lib.hid hI3
            have HIW3 := Lib.hid (Reads.upd (k := .i64) hIw hu3 (by simp))
            have HR3 := Lib.hid (HR.out.upd0 hu3)
            have HO3 := Lib.hid (HO.out.upd0 hu3)
            have HP3 := Lib.hid (HP.out.upd0 hu3)
            have HE3 := Lib.hid (HE.out.upd0 hu3)
            clear ho3 hI3 hIw hu3 hL1 HR HO HP HE
            go_wp2_with fail
            refine (same_calls A3 Aw L1 L1 cap3 capw want want w3 HLW.out HLW.out HI3.out HIW3.out (by omega) (by omega)).mono ?_
            rintro e w4 ⟨he6, q6, rfl⟩
            rw [decide_eq_true rfl] at he6
            subst he6
            have HWS : Hid (ws.length = 6 - L1) := Lib.hid (by have := HPT.out.sum; rw [HT6.out, HLW.out] at this; omega)
            obtain ⟨W1, hW1⟩ : ∃ W1, 6 - L1 = W1 := ⟨_, rfl⟩
            have hW1' : W1 + L1 = 6 := by omega
            have hW1i : (6 : Int) - L1 = W1 := by omega
            rw [hW1] at HWS
            clear hW1
            go_wp2_with fail
            refine (finals_yes f h 40 _ (HR3.out.upd0 ((Upd.refl [] w3).drewN q6)) (by rw [HWS.out]; omega)).mono ?_
            rintro e w5 ⟨v5, rfl, ho5, hu5⟩
            obtain ⟨A5, cap5, hv5, _, _⟩ := ho5.form
            rw [HWS.out] at hv5
            subst hv5
            have hu6 := ((Upd.refl [] w3).drewN q6).trans hu5
            have HR : Hid (FinO w5 f h 40 l F ws (want.drop 0) O) := Lib.hid (HR3.out.upd0 hu6)
            have HO := Lib.hid (HO3.out.upd0 hu6)
            have HP := Lib.hid (HP3.out.upd0 hu6)
            have HE := Lib.hid (HE3.out.upd0 hu6)
            clear ho5 hu5 hu6 HR3 HO3 HP3 HE3
            go_wp2_with fail
            clear hW1i
            go_loopg [12] L1 (fun gk i wr => ∃ (k : Nat) (O : Nat → Prop), gk = L1 - k ∧ k ≤ L1 ∧ i = .int .i64 k ∧ Hid (FinO wr f h 40 l F ws (want.drop k) O) ∧ Hid (OwnA wr w1.heap.size (.slice Aw L1 capw) want O) ∧ Hid (Env w wr O))
            case atStart => exact ⟨0, O, rfl, by omega, rfl, HR, HP, HE⟩
            case round =>
              clear HR HO HP HE
              obtain ⟨k, O, rfl, hk, rfl, HR, HP, HE⟩ := hrel
              by_cases hlt : k < L1
              · have hd : want.drop k = want.getD k 0 :: want.drop (k + 1) := by
                  rw [List.drop_eq_getElem_cons (by rw [HLW.out]; exact hlt), List.getD_eq_getElem?_getD, List.getElem?_eq_getElem (by rw [HLW.out]; exact hlt)]
                  rfl
                have hT : (want.drop k).getD 0 0 = want.getD k 0 ∧ (want.drop k).eraseIdx 0 = want.drop (k + 1) ∧ 0 < (want.drop k).length ∧ (want.drop k).length ≤ 100000 := by
                  refine ⟨by rw [hd]; rfl, by rw [hd]; rfl, by rw [hd]; simp, ?_⟩
                  rw [List.length_drop, HLW.out]; omega
                have HTT := Lib.hid hT
                obtain ⟨A6, cap6, hv6, hI6, _⟩ := HP.out.own.form
                simp only [Value.slice.injEq] at hv6
                rw [← hv6.1] at hI6
                obtain ⟨b2, off2, hbb, hb2, hc2⟩ := Reads.at (k := .i64) hI6 HLW.out hlt
                have hxm : want.getD k 0 ∈ want := getD_mem (by rw [HLW.out]; exact hlt)
                have hx6 := HPT.out.sub _ hxm
                obtain ⟨jx, hjx, hex⟩ := List.mem_iff_getElem.1 hx6
                have hj6 : jx < 6 := by rw [HT6.out] at hjx; exact hjx
                have hel : l.getD jx 0 = want.getD k 0 := by
                  rw [← hex, List.getElem_take, List.getD_eq_getElem?_getD, List.getElem?_eq_getElem (by rw [HLL.out]; omega)]; rfl
                have HXF : Hid (want.getD k 0 ∈ l ∧ (F (want.getD k 0)).k ≠ 4 ∧ (F (want.getD k 0)).f = true) := Lib.hid (by
                  have := HW.out.done jx hj6 hj6
                  rw [hel] at this
                  exact ⟨by rw [← hel]; exact getD_mem (by rw [HLL.out]; omega), this.1, this.2⟩)
                clear hd hT hI6 hv6 hxm hx6 hex hel hjx hj6
                go_wp2_with fail
                refine (ftake_yes f h 40 0 0 _ HR.out rfl HTT.out.2.2.1 HTT.out.2.2.2).mono ?_
                rintro e w6 ⟨rfl, O6, hr, hs⟩
                rw [HTT.out.1]
                rw [HTT.out.2.1] at hr
                obtain ⟨x, hx⟩ : ∃ x, want.getD k 0 = x := ⟨_, rfl⟩
                rw [hx] at HXF
                rw [hx]
                have HR6 := Lib.hid hr
                have HP6 := Lib.hid (HP.out.step hs)
                have HE6 := Lib.hid (HE.out.step hs)
                clear hr hs hc2
                obtain ⟨A7, cap7, hv7, hI7, _⟩ := HP6.out.own.form
                simp only [Value.slice.injEq] at hv7
                rw [← hv7.1] at hI7
                obtain ⟨b7, off7, hbb7, hb7, hc7⟩ := Reads.at (k := .i64) hI7 HLW.out hlt
                rw [hbb] at hbb7
                simp only [Option.some.injEq, Addr.mk.injEq, and_true] at hbb7
                obtain ⟨rfl, rfl⟩ := hbb7
                subst hbb
                rw [hx] at hc7
                clear hx hI7 hv7
                go_wp2_with fail
                refine (err_calls 0 _ (by omega)).mono ?_
                rintro e w' ⟨rfl, rfl⟩
                go_wp2_with fail
                refine (await_no f h 40 x 4 _ HR6.out (.inr ⟨HXF.out.1, .inr ⟨HXF.out.2.1, HXF.out.2.2, rfl⟩⟩)).mono ?_
                rintro e w8 ⟨rfl, hu⟩
                have HR8 := Lib.hid (HR6.out.upd0 hu)
                have HP8 := Lib.hid (HP6.out.upd0 hu)
                have HE8 := Lib.hid (HE6.out.upd0 hu)
                clear hu hc7
                go_wp2_with fail
                refine (err_calls 4 _ (by omega)).mono ?_
                rintro e w' ⟨rfl, rfl⟩
                go_wp2_with fail
                go_roundg (L1 - (k + 1))
                case measure => omega
                case rel => exact ⟨k + 1, O6, rfl, by omega, by go_num, HR8, HP8, HE8⟩
              · obtain rfl : L1 = k := by omega
                have hdl : want.drop L1 = [] := List.drop_of_length_le (by rw [HLW.out]; exact Nat.le_refl _)
                rw [hdl] at HR
                clear hdl
                go_wp2_with fail
                refine (ftake_nil 0 _).mono ?_
                rintro e w' ⟨rfl, rfl⟩
                have HUN : Hid (Upd [] wr (wr.alloc (.cells #[.int .i64 1] 3))) := Lib.hid ((Upd.refl [] wr).alloc _)
                go_wp2_with fail
                refine (pend_nil (some ⟨wr.heap.size, 0, none⟩) 1 1 _).mono ?_
                rintro e w' ⟨rfl, rfl⟩
                go_wp2_with fail
                refine (pending_yes f h 40 _ (HR.out.upd0 HUN.out) (by simp)).mono ?_
                rintro e w9 ⟨v9, rfl, ho9, hu9⟩
                obtain ⟨A9, cap9, hv9, _, _⟩ := ho9.form
                have hv10 : v9 = .slice A9 0 cap9 := hv9
                subst hv10
                have HU9 := Lib.hid (HUN.out.trans hu9)
                clear ho9 hu9 hv9
                go_wp2_with fail
                refine (err_calls 1 _ (by omega)).mono ?_
                rintro e w' ⟨rfl, rfl⟩
                go_wp2_with fail
                refine (await_nil 64 _).mono ?_
                rintro e w' ⟨rfl, rfl⟩
                go_wp2_with fail
                refine (err_calls 2 _ (by omega)).mono ?_
                rintro e w' ⟨rfl, rfl⟩
                go_wp2_with fail
                refine (finals_nil _).mono ?_
                rintro e w' ⟨rfl, rfl⟩
                go_wp2_with fail
                refine (pending_nil _).mono ?_
                rintro e w' ⟨rfl, rfl⟩
                go_wp2_with fail
                refine (fin_new_nil _).mono ?_
                rintro e w' ⟨rfl, rfl⟩
                go_wp2_with fail
                refine (awake15 _).mono ?_
                rintro e w11 ⟨rfl, hu⟩
                have HU11 := Lib.hid hu
                clear hu
                go_wp2_with fail
                go_ret
                exact ⟨rfl, (HE.out.upd.trans (HU9.out.trans HU11.out)).below⟩
end Go.Proofs.Ytendjhobemlhoaa
