/- The program's seventh rule of a view. -/
import Derived.Test.YtnhgmmjlhhgdoaaPr6
namespace Go.Proofs.Ytnhgmmjlhhgdoaa
open Go Go.RowKit

set_option maxRecDepth 100000 in
set_option maxHeartbeats 1600000 in
theorem numbers1_other (i ad kd cl ln : Int) (fi : Bool) (wa : Option Addr) (z wc : Nat) (p r : Value) (w : World) (hk : kd ≠ 4) :
    Calls Try.prog 61 #[.int .i64 i, .agg #[.int .i64 ad, .int .i64 kd, .int .i64 cl, .int .i64 ln, .bool fi, .slice wa z wc], p, r] w fun e w' => e = .returned (.bool true) ∧ Upd [] w w' := by
  have h4b : (kd == 4) = false := by simpa using hk
  have h4c : (kd != 4) = true := by simpa using hk
  clear hk
  go_enter Try.func61, Try.ntmps61
  go_upto_region 1 with fail
  generalize hW : World.alloc w (Obj.cells _ 37) = w1
  have HB : Hid (Blk w1 w.heap.size 37 _) := Lib.hid (by rw [← hW]; exact Blk.new _ _ _)
  have HU : Hid (Upd [] w w1) := Lib.hid (by rw [← hW]; exact (Upd.refl [] w).alloc _)
  clear hW
  generalize hq0 : w.heap.size = q at *
  have HQ0 := Lib.hid hq0
  clear hq0
  have e1 : w1.cell? ⟨q, 1, none⟩ = some (.int .i64 kd) := vw_cells HB.out (Upd.refl _ _) rfl
  go_wp2_with fail
  go_ret
  exact ⟨rfl, HU.out⟩
def okN (x t serial clock : Int) (L : List Int) : Bool := decide (1 ≤ x) && decide (x ≤ serial) && !decide (x ∈ L) && decide (0 ≤ t) && decide (t ≤ clock)
set_option maxRecDepth 100000 in
set_option maxHeartbeats 3200000 in
theorem numbers1_ref (v : Vw) (sh mb rb hc hb kk : Nat) (i ad cl ln : Int) (fi : Bool) (wa : Option Addr) (wc : Nat) (ws L : List Int) (w : World) (H : ShAt w v sh mb) (hr : w.cell? ⟨rb, 0, none⟩ = some (.pointer (some ⟨sh, 0, none⟩))) (hrw : rb < w.heap.size)
    (hhc : Blk w hc 76 #[.map (some hb)]) (hT : Tab w hb kk (setF L)) (hws : IsInts w wa ws) (h5 : ws.length = 5) :
    Calls Try.prog 61 #[.int .i64 i, .agg #[.int .i64 ad, .int .i64 4, .int .i64 cl, .int .i64 ln, .bool fi, .slice wa 5 wc], .pointer (some ⟨rb, 0, none⟩), .pointer (some ⟨hc, 0, none⟩)] w
      fun e w' => e = .returned (.bool (okN (ws.getD 4 0) (ws.getD 3 0) v.serial v.clock L)) ∧ Tab w' hb (kk + 1) (setF (L ++ [ws.getD 4 0])) ∧ Upd [hb] w w' := by
  have hws6 : Reads w .i64 wa ws := hws
  obtain ⟨wb, wo, hwa, hwb, y4⟩ := hws6.at h5 (show 4 < 5 by omega)
  obtain ⟨wb1, wo1, hwa1, -, y3⟩ := hws6.at h5 (show 3 < 5 by omega)
  subst hwa
  simp only [Option.some.injEq, Addr.mk.injEq] at hwa1
  obtain ⟨rfl, rfl, -⟩ := hwa1
  have HCS : Hid (∀ W, Upd [] w W → W.cell? ⟨rb, 0, none⟩ = some (.pointer (some ⟨sh, 0, none⟩)) ∧ W.cell? ⟨sh, 6, none⟩ = some (.int .i64 v.clock) ∧ W.cell? ⟨sh, 7, none⟩ = some (.int .i64 v.serial) ∧ W.cell? ⟨hc, 0, none⟩ = some (.map (some hb)) ∧ W.cell? ⟨wb, wo + 4, none⟩ = some (.int .i64 (ws.getD 4 0)) ∧ W.cell? ⟨wb, wo + 3, none⟩ = some (.int .i64 (ws.getD 3 0))) := Lib.hid (fun W u =>
    ⟨(u.cell (p := ⟨rb, 0, none⟩) hrw (by simp)).trans hr, H.cell u (by simp) rfl, H.cell u (by simp) rfl, (hhc.upd u (by simp)).one_of, (u.cell (p := ⟨wb, wo + 4, none⟩) hwb (by simp)).trans y4, (u.cell (p := ⟨wb, wo + 3, none⟩) hwb (by simp)).trans y3⟩)
  have HT := Lib.hid hT
  clear H hr hrw hhc hT hws h5 hws6 y4 y3
  generalize ws.getD 4 0 = x at *
  generalize ws.getD 3 0 = t at *
  generalize v.clock = clock at *
  generalize v.serial = serial at *
  have HOK : Hid (okN x t serial clock L = (decide (1 ≤ x) && decide (x ≤ serial) && !decide (x ∈ L) && decide (0 ≤ t) && decide (t ≤ clock))) := Lib.hid rfl
  generalize okN x t serial clock L = ok at *
  obtain ⟨kd, hkd⟩ : ∃ k : Int, k = 4 := ⟨4, rfl⟩
  rw [← hkd]
  have h4b : (kd == 4) = true := by simp [hkd]
  have h4c : (kd != 4) = false := by simp [hkd]
  clear hkd
  go_enter Try.func61, Try.ntmps61
  go_upto_region 1 with fail
  generalize hW : World.alloc w (Obj.cells _ 37) = w1
  have HB : Hid (Blk w1 w.heap.size 37 _) := Lib.hid (by rw [← hW]; exact Blk.new _ _ _)
  have HU : Hid (Upd [] w w1) := Lib.hid (by rw [← hW]; exact (Upd.refl [] w).alloc _)
  clear hW
  generalize hq0 : w.heap.size = q at *
  have HQ0 := Lib.hid hq0
  clear hq0
  have e1 : w1.cell? ⟨q, 1, none⟩ = some (.int .i64 kd) := vw_cells HB.out (Upd.refl _ _) rfl
  have HDD : Hid (∀ W, Upd [] w1 W → W.cell? ⟨q, 5, none⟩ = some (.slice (some ⟨wb, wo, none⟩) 5 wc) ∧ W.cell? ⟨wb, wo + 4, none⟩ = some (.int .i64 x) ∧ W.cell? ⟨wb, wo + 3, none⟩ = some (.int .i64 t)) := Lib.hid (fun W u => ⟨vw_cells HB.out u rfl, (HCS.out W (HU.out.trans u)).2.2.2.2.1, (HCS.out W (HU.out.trans u)).2.2.2.2.2⟩)
  go_wp2_with fail
  refine Plan.wp_plan [.blk [0, 1, 2, 3, 4, 5, 6, 7, 8, 9]] (fun w' => w'.cell? ⟨q, 5, none⟩ = some (.slice (some ⟨wb, wo, none⟩) 5 wc) ∧ w'.cell? ⟨wb, wo + 4, none⟩ = some (.int .i64 x) ∧ w'.cell? ⟨wb, wo + 3, none⟩ = some (.int .i64 t)) (by kernel_rfl) (by kernel_rfl) (by intro _ _ d _ _ h; cases d <;> exact h) (HDD.out _ (Upd.refl [] w1).drew) (fun hS => ?_)
  clear hS
  clear e1
  apply Plan.blk_intro
  · intro w' hw Φ HΦ
    obtain ⟨e5, y4, y3⟩ := hw
    simp only [Plan.pick, List.map_cons, List.map_nil, List.getD_cons_zero, List.getD_cons_succ]
    repeat (first | go_values | go_skip | go_guarded | go_step | go_upon)
    exact ⟨rfl, HΦ.out⟩
  · kernel_rfl
  refine Plan.plan_done ?_
  have HWD : Hid (Upd [] w1 w1.drew) := Lib.hid (Upd.refl [] w1).drew
  generalize hwd : w1.drew = wd at *
  clear hwd
  have HTD : Hid (Tab wd hb kk (setF L)) := Lib.hid (HT.out.upd (HU.out.trans HWD.out) (by simp))
  have hlk := setF_look HTD.out x
  obtain ⟨r0, s6, s7, hc0, -, -⟩ := HCS.out _ (HU.out.trans HWD.out)
  obtain ⟨b1, hb1⟩ : ∃ b, decide (1 ≤ x) = b := ⟨_, rfl⟩
  obtain ⟨b2, hb2⟩ : ∃ b, decide (x ≤ serial) = b := ⟨_, rfl⟩
  obtain ⟨b3, hb3⟩ : ∃ b, decide (x ∈ L) = b := ⟨_, rfl⟩
  obtain ⟨b4, hb4⟩ : ∃ b, decide (0 ≤ t) = b := ⟨_, rfl⟩
  obtain ⟨b5, hb5⟩ : ∃ b, decide (t ≤ clock) = b := ⟨_, rfl⟩
  rw [hb1, hb2, hb3, hb4, hb5] at HOK
  rw [hb3] at hlk
  clear hb3
  have ho := HOK.out
  subst ho
  clear HOK
  cases b1 with
  | false =>
    go_wp2_with (at_mapUpdate; refine wpList_put_tab rfl _ _ _ 76 3 4 rfl Try.underlying76 Try.underlying3 HTD.out (by rfl) x (.bool true) (by rfl) (by rfl) ?_)
    intro w6 hT6 hg6
    have HT6 : Hid (Tab w6 hb (kk + 1) (setF (L ++ [x]))) := Lib.hid (by rw [← setF_add]; exact hT6)
    have HU6 : Hid (Upd [hb] w w6) := Lib.hid (((HU.out.trans HWD.out).mono (by simp)).grown hg6 (fun i hi => .inl (by simp only [Option.some.injEq] at hi; simp [hi])))
    clear hT6 hg6
    go_wp2_with fail
    go_ret
    exact ⟨rfl, HT6.out, HU6.out⟩
  | true =>
    cases b2 with
    | false =>
      go_wp2_with (at_mapUpdate; refine wpList_put_tab rfl _ _ _ 76 3 4 rfl Try.underlying76 Try.underlying3 HTD.out (by rfl) x (.bool true) (by rfl) (by rfl) ?_)
      intro w6 hT6 hg6
      have HT6 : Hid (Tab w6 hb (kk + 1) (setF (L ++ [x]))) := Lib.hid (by rw [← setF_add]; exact hT6)
      have HU6 : Hid (Upd [hb] w w6) := Lib.hid (((HU.out.trans HWD.out).mono (by simp)).grown hg6 (fun i hi => .inl (by simp only [Option.some.injEq] at hi; simp [hi])))
      clear hT6 hg6
      go_wp2_with fail
      go_ret
      exact ⟨rfl, HT6.out, HU6.out⟩
    | true =>
      cases b3 with
      | true =>
        go_wp2_with (at_mapUpdate; refine wpList_put_tab rfl _ _ _ 76 3 4 rfl Try.underlying76 Try.underlying3 HTD.out (by rfl) x (.bool true) (by rfl) (by rfl) ?_)
        intro w6 hT6 hg6
        have HT6 : Hid (Tab w6 hb (kk + 1) (setF (L ++ [x]))) := Lib.hid (by rw [← setF_add]; exact hT6)
        have HU6 : Hid (Upd [hb] w w6) := Lib.hid (((HU.out.trans HWD.out).mono (by simp)).grown hg6 (fun i hi => .inl (by simp only [Option.some.injEq] at hi; simp [hi])))
        clear hT6 hg6
        go_wp2_with fail
        go_ret
        exact ⟨rfl, HT6.out, HU6.out⟩
      | false =>
        cases b4 with
        | false =>
          go_wp2_with (at_mapUpdate; refine wpList_put_tab rfl _ _ _ 76 3 4 rfl Try.underlying76 Try.underlying3 HTD.out (by rfl) x (.bool true) (by rfl) (by rfl) ?_)
          intro w6 hT6 hg6
          have HT6 : Hid (Tab w6 hb (kk + 1) (setF (L ++ [x]))) := Lib.hid (by rw [← setF_add]; exact hT6)
          have HU6 : Hid (Upd [hb] w w6) := Lib.hid (((HU.out.trans HWD.out).mono (by simp)).grown hg6 (fun i hi => .inl (by simp only [Option.some.injEq] at hi; simp [hi])))
          clear hT6 hg6
          go_wp2_with fail
          go_ret
          exact ⟨rfl, HT6.out, HU6.out⟩
        | true =>
          cases b5 with
          | false =>
            go_wp2_with (at_mapUpdate; refine wpList_put_tab rfl _ _ _ 76 3 4 rfl Try.underlying76 Try.underlying3 HTD.out (by rfl) x (.bool true) (by rfl) (by rfl) ?_)
            intro w6 hT6 hg6
            have HT6 : Hid (Tab w6 hb (kk + 1) (setF (L ++ [x]))) := Lib.hid (by rw [← setF_add]; exact hT6)
            have HU6 : Hid (Upd [hb] w w6) := Lib.hid (((HU.out.trans HWD.out).mono (by simp)).grown hg6 (fun i hi => .inl (by simp only [Option.some.injEq] at hi; simp [hi])))
            clear hT6 hg6
            go_wp2_with fail
            go_ret
            exact ⟨rfl, HT6.out, HU6.out⟩
          | true =>
            go_wp2_with (at_mapUpdate; refine wpList_put_tab rfl _ _ _ 76 3 4 rfl Try.underlying76 Try.underlying3 HTD.out (by rfl) x (.bool true) (by rfl) (by rfl) ?_)
            intro w6 hT6 hg6
            have HT6 : Hid (Tab w6 hb (kk + 1) (setF (L ++ [x]))) := Lib.hid (by rw [← setF_add]; exact hT6)
            have HU6 : Hid (Upd [hb] w w6) := Lib.hid (((HU.out.trans HWD.out).mono (by simp)).grown hg6 (fun i hi => .inl (by simp only [Option.some.injEq] at hi; simp [hi])))
            clear hT6 hg6
            go_wp2_with fail
            go_ret
            exact ⟨rfl, HT6.out, HU6.out⟩
/-- What a round of the seventh rule leaves. -/
def I7 (w : World) (hb hc : Nat) (os : List Ob) (serial clock : Int) (i : Nat) (W : World) : Prop :=
  Upd [] w W ∧ Blk W hc 76 #[.map (some hb)] ∧ (∃ kk, Tab W hb kk (setF (serials (os.take i)))) ∧ ∀ m, m < i → Ok7 (os.getD m ob0) (serials (os.take m)) serial clock
theorem numbers_step {v : Vw} {sh mb rb hc hb n : Nat} {R : Prop} {w W : World} {i : Nat} (H : ShAt w v sh mb) (h1 : R1 v.os) (hn : v.os.length = n) (hr : w.cell? ⟨rb, 0, none⟩ = some (.pointer (some ⟨sh, 0, none⟩))) (hrw : rb < w.heap.size) (hbw : w.heap.size ≤ hb) (hne : hc ≠ hb)
    (hR : ∀ i, i < n → ¬ Ok7 (v.os.getD i ob0) (serials (v.os.take i)) v.serial v.clock → ¬ R) (hi : i < n) (h : I7 w hb hc v.os v.serial v.clock i W) :
    Calls Try.prog 61 (#[.int .i64 (i : Int), (v.os.getD i ob0).val] ++ #[.pointer (some ⟨rb, 0, none⟩), .pointer (some ⟨hc, 0, none⟩)]) W (Rounds (I7 w hb hc v.os v.serial v.clock) (fun W => Upd [] w W ∧ ¬ R) (i + 1)) := by
  obtain ⟨g1, g2, ⟨kk, g3⟩, g4⟩ := h
  have hws : IsInts W (v.os.getD i ob0).wa (v.os.getD i ob0).ws := by
    obtain ⟨_, _, _, _, _, hw⟩ := (H.sees.obs.upd g1 (by simp)).at hn hi
    exact hw
  have hss := serials_step (show i < v.os.length by omega)
  have hok7 : Ok7 (v.os.getD i ob0) (serials (v.os.take i)) v.serial v.clock ↔ ((v.os.getD i ob0).kind = 4 → 1 ≤ (v.os.getD i ob0).ws.getD 4 0 ∧ (v.os.getD i ob0).ws.getD 4 0 ≤ v.serial ∧ (v.os.getD i ob0).ws.getD 4 0 ∉ serials (v.os.take i) ∧ 0 ≤ (v.os.getD i ob0).ws.getD 3 0 ∧ (v.os.getD i ob0).ws.getD 3 0 ≤ v.clock) := Iff.rfl
  have hstep : Ok7 (v.os.getD i ob0) (serials (v.os.take i)) v.serial v.clock → ∀ m, m < i + 1 → Ok7 (v.os.getD m ob0) (serials (v.os.take m)) v.serial v.clock := fun h m hm => by
    rcases Nat.eq_or_lt_of_le (show m ≤ i by omega) with rfl | h4
    · exact h
    · exact g4 m h4
  by_cases hk : (v.os.getD i ob0).kind = 4
  · have h5 := h1.ref5 (by omega) hk
    rw [if_pos hk] at hss
    have hno := hR i hi
    have hv : (v.os.getD i ob0).val = .agg #[.int .i64 (v.os.getD i ob0).adr, .int .i64 4, .int .i64 (v.os.getD i ob0).cls, .int .i64 (v.os.getD i ob0).len, .bool (v.os.getD i ob0).fin, .slice (v.os.getD i ob0).wa 5 (v.os.getD i ob0).wc] := by
      unfold Ob.val
      rw [hk, h5]
    rw [hv]
    refine (numbers1_ref v sh mb rb hc hb kk i _ _ _ _ _ _ (v.os.getD i ob0).ws _ W (H.upd g1 (by simp)) ((g1.cell (p := ⟨rb, 0, none⟩) hrw (by simp)).trans hr) (Nat.lt_of_lt_of_le hrw g1.size) g2 g3 hws h5).mono ?_
    rintro e w' ⟨rfl, hT, hu⟩
    have hU : Upd [] w w' := g1.step hu (by simp [hbw])
    have hC : Blk w' hc 76 #[.map (some hb)] := g2.upd hu (by simpa using hne)
    rw [← hss] at hT
    by_cases hok : Ok7 (v.os.getD i ob0) (serials (v.os.take i)) v.serial v.clock
    · refine .inl ⟨?_, hU, hC, ⟨_, hT⟩, hstep hok⟩
      obtain ⟨q1, q2, q3, q4, q5⟩ := hok7.1 hok hk
      unfold okN
      simp only [q1, q2, q3, q4, q5, decide_true, decide_false, Bool.not_false, Bool.and_self]
    · refine .inr ⟨?_, hU, hno hok⟩
      congr 2
      rw [← Bool.not_eq_true]
      intro hc
      unfold okN at hc
      simp only [Bool.and_eq_true, decide_eq_true_eq, Bool.not_eq_true', decide_eq_false_iff_not] at hc
      exact hok (hok7.2 fun _ => ⟨hc.1.1.1.1, hc.1.1.1.2, hc.1.1.2, hc.1.2, hc.2⟩)
  · rw [if_neg hk] at hss
    refine (numbers1_other i _ _ _ _ _ _ _ _ _ _ W hk).mono ?_
    rintro e w' ⟨rfl, hu⟩
    exact .inl ⟨rfl, g1.trans hu, g2.upd hu (by simp), ⟨kk, by rw [hss]; exact g3.upd hu (by simp)⟩, hstep (hok7.2 fun h => absurd h hk)⟩
set_option maxRecDepth 100000 in
set_option maxHeartbeats 3200000 in
theorem numbers_walk (v : Vw) (sh mb : Nat) (w : World) (H : ShAt w v sh mb) (h1 : R1 v.os) (hl : v.os.length ≤ 9223372036854775807) : Calls Try.prog 37 #[.agg #[.pointer (some ⟨sh, 0, none⟩)]] w (Says (R7 v.os v.clock v.serial v.runs) w) := by
  have HSH := Lib.hid H
  have H1 := Lib.hid h1
  have HRI : Hid (∀ i, i < v.os.length → ¬ Ok7 (v.os.getD i ob0) (serials (v.os.take i)) v.serial v.clock → ¬ R7 v.os v.clock v.serial v.runs) := Lib.hid (fun i hi h h2 => h (h2.2 i hi))
  have HNN : Hid (¬ (0 ≤ v.clock ∧ 0 ≤ v.serial ∧ 0 ≤ v.runs) → ¬ R7 v.os v.clock v.serial v.runs) := Lib.hid (fun h h2 => h h2.1)
  have HRY : Hid (0 ≤ v.clock ∧ 0 ≤ v.serial ∧ 0 ≤ v.runs → (∀ i, i < v.os.length → Ok7 (v.os.getD i ob0) (serials (v.os.take i)) v.serial v.clock) → R7 v.os v.clock v.serial v.runs) := Lib.hid (fun h h2 => ⟨h, h2⟩)
  generalize R7 v.os v.clock v.serial v.runs = R at *
  clear H h1
  have hmm := @run_makeMap Try.prog
  go_enter Try.func37, Try.ntmps37
  go_upto_region 1 with fail
  generalize hW : World.alloc w (Obj.cells _ 62) = w1
  have HB : Hid (Blk w1 w.heap.size 62 #[.pointer (some ⟨sh, 0, none⟩)]) := Lib.hid (by rw [← hW]; exact Blk.new _ _ _)
  have HU : Hid (Upd [] w w1) := Lib.hid (by rw [← hW]; exact (Upd.refl [] w).alloc _)
  have HS1 : Hid (ShAt w1 v sh mb) := Lib.hid (HSH.out.upd HU.out (by simp))
  clear hW
  generalize hq0 : w.heap.size = rb at *
  have hrw : rb < w1.heap.size := HB.out.lt
  have HQ0 := Lib.hid hq0
  clear hq0
  have HCS : Hid (∀ W, Upd [] w1 W → W.cell? ⟨rb, 0, none⟩ = some (.pointer (some ⟨sh, 0, none⟩)) ∧ W.cell? ⟨sh, 6, none⟩ = some (.int .i64 v.clock) ∧ W.cell? ⟨sh, 7, none⟩ = some (.int .i64 v.serial) ∧ W.cell? ⟨sh, 9, none⟩ = some (.int .i64 v.runs)) := Lib.hid (fun W u => ⟨(HB.out.upd u (by simp)).one_of, HS1.out.cell u (by simp) rfl, HS1.out.cell u (by simp) rfl, HS1.out.cell u (by simp) rfl⟩)
  have hcr : w1.cell? ⟨rb, 0, none⟩ = some (.pointer (some ⟨sh, 0, none⟩)) := HB.out.one_of
  have HCR := Lib.hid hcr
  clear hcr
  go_upto_region 2 with fail
  generalize hW : World.alloc w1 (Obj.map _ _) = w2
  have HT2 : Hid (Tab w2 w1.heap.size 0 (setF [])) := Lib.hid (by rw [← hW, setF_nil]; exact Tab.new w1)
  have H12 : Hid (Upd [] w1 w2) := Lib.hid (by rw [← hW]; exact (Upd.refl [] w1).alloc _)
  have hs2 : w2.heap.size = w1.heap.size + 1 := by rw [← hW]; simp
  clear hW hmm
  rw [← hs2]
  have HNE : Hid (w2.heap.size ≠ w1.heap.size) := Lib.hid (by omega)
  clear hs2
  generalize hW : World.alloc w2 (Obj.cells _ 76) = w3
  have HC3 : Hid (Blk w3 w2.heap.size 76 #[.map (some w1.heap.size)]) := Lib.hid (by rw [← hW]; exact Blk.new _ _ _)
  have H23 : Hid (Upd [] w2 w3) := Lib.hid (by rw [← hW]; exact (Upd.refl [] w2).alloc _)
  have H13 : Hid (Upd [] w1 w3) := Lib.hid (H12.out.trans H23.out)
  have HT3 : Hid (Tab w3 w1.heap.size 0 (setF [])) := Lib.hid (HT2.out.upd H23.out (by simp))
  clear hW
  have hsw : sh < w1.heap.size := HS1.out.blk.lt
  have HHB : Hid (w1.heap.size ≤ w1.heap.size) := Lib.hid (Nat.le_refl _)
  have HEA := each_walk 61 #[.pointer (some ⟨rb, 0, none⟩), .pointer (some ⟨w2.heap.size, 0, none⟩)] v.oa v.oc v.os.length v.os sh w1 w3 [] (I7 w1 w1.heap.size w2.heap.size v.os v.serial v.clock) (fun W => Upd [] w1 W ∧ ¬ R) rfl hl (by simp) HS1.out.sees.obs
    (HS1.out.cell H13.out (by simp) rfl) ⟨H13.out, HC3.out, ⟨0, HT3.out⟩, fun m h => by omega⟩ (fun i W h => h.1) (fun i W W' h u => ⟨h.1.trans u, h.2.1.upd u (by simp), by obtain ⟨kk, hk⟩ := h.2.2.1; exact ⟨kk, hk.upd u (by simp)⟩, h.2.2.2⟩)
    (Nat.lt_of_lt_of_le hsw H13.out.size) enters61 (fun i W hi h => numbers_step HS1.out H1.out rfl HCR.out hrw (Nat.le_refl _) HNE.out HRI.out hi h)
  have HEAC := Lib.hid (HEA.mono (fun e w' h => (show (e = .returned (.bool true) ∧ Upd [] w1 w' ∧ ∀ m, m < v.os.length → Ok7 (v.os.getD m ob0) (serials (v.os.take m)) v.serial v.clock) ∨ (e = .returned (.bool false) ∧ Upd [] w1 w' ∧ ¬ R) from h.imp (fun h => ⟨h.1, h.2.1, h.2.2.2.2⟩) (fun h => h))))
  clear HEA HRI
  generalize w2.heap.size = hc at *
  generalize hhb : w1.heap.size = hb at *
  clear hhb
  obtain ⟨r0, s6, s7, s9⟩ := HCS.out _ H13.out
  generalize (∀ m, m < v.os.length → Ok7 (v.os.getD m ob0) (serials (v.os.take m)) v.serial v.clock) = OKS at *
  generalize (∀ i, i < v.os.length → Ok7 (v.os.getD i ob0) (serials (v.os.take i)) v.serial v.clock) = OKS2 at *
  generalize v.clock = clock at *
  generalize v.serial = serial at *
  generalize v.runs = runs at *
  by_cases hc1 : clock < 0
  · have hb1 : decide (clock < 0) = true := by simpa using hc1
    have HFR := Lib.hid (HNN.out (by omega))
    clear hc1
    go_wp2_with fail
    go_ret
    exact ⟨false, rfl, by simp; exact HFR.out, (HU.out.trans H13.out).below⟩
  have hb1 : decide (clock < 0) = false := by simpa using hc1
  by_cases hc2 : serial < 0
  · have hb2 : decide (serial < 0) = true := by simpa using hc2
    have HFR := Lib.hid (HNN.out (by omega))
    clear hc1 hc2
    go_wp2_with fail
    go_ret
    exact ⟨false, rfl, by simp; exact HFR.out, (HU.out.trans H13.out).below⟩
  have hb2 : decide (serial < 0) = false := by simpa using hc2
  by_cases hc3 : runs < 0
  · have hb3 : decide (runs < 0) = true := by simpa using hc3
    have HFR := Lib.hid (HNN.out (by omega))
    clear hc1 hc2 hc3
    go_wp2_with fail
    go_ret
    exact ⟨false, rfl, by simp; exact HFR.out, (HU.out.trans H13.out).below⟩
  have hb3 : decide (runs < 0) = false := by simpa using hc3
  have HYES := Lib.hid (HRY.out (by omega))
  clear hc1 hc2 hc3
  go_wp2_with fail
  refine HEAC.out.mono ?_
  rintro e w5 (⟨rfl, g1, g2⟩ | ⟨rfl, g1, g2⟩)
  · have HT : Hid R := Lib.hid (HYES.out g2)
    have HG := Lib.hid g1
    clear g1 g2 r0 s6 s7 s9
    go_wp2_with fail
    go_ret
    exact ⟨true, rfl, by simp; exact HT.out, (HU.out.trans HG.out).below⟩
  · have HT := Lib.hid g2
    have HG := Lib.hid g1
    clear g1 g2 r0 s6 s7 s9
    go_wp2_with fail
    go_ret
    exact ⟨false, rfl, by simp; exact HT.out, (HU.out.trans HG.out).below⟩
end Go.Proofs.Ytnhgmmjlhhgdoaa
