/- The program's third rule of a view. -/
import Derived.Test.YtnhgmmjlhhgdoaaPr2
namespace Go.Proofs.Ytnhgmmjlhhgdoaa
open Go Go.RowKit

instance (os : List Ob) (a : Int) : Decidable (IsObj os a) := inferInstanceAs (Decidable (∃ o ∈ os, o.adr = a))
instance (os : List Ob) (a : Int) : Decidable (Known os a) := inferInstanceAs (Decidable (a = 0 ∨ IsObj os a))
theorem mapK_any {os : List Ob} {y : Int} : ∀ k, k ≤ os.length → (mapK os k y = none ∧ ∀ j, j < k → (os.getD j ob0).adr ≠ y) ∨ ∃ j, j < k ∧ mapK os k y = some (os.getD j ob0).val ∧ (os.getD j ob0).adr = y
  | 0, _ => .inl ⟨rfl, fun j hj => by omega⟩
  | k + 1, hk => by
    show ((if y = _ then _ else _) = _ ∧ _) ∨ ∃ j, _ ∧ (if y = _ then _ else _) = _ ∧ _
    by_cases e : y = (os.getD k ob0).adr
    · exact .inr ⟨k, by omega, by rw [if_pos e], e.symm⟩
    · rw [if_neg e]
      rcases mapK_any (os := os) (y := y) k (by omega) with ⟨h1, h2⟩ | ⟨j, h1, h2, h3⟩
      · refine .inl ⟨h1, fun j hj h => ?_⟩
        rcases Nat.eq_or_lt_of_le (show j ≤ k by omega) with rfl | h4
        · exact e h.symm
        · exact h2 j h4 h
      · exact .inr ⟨j, by omega, h2, h3⟩
/-- What is found in the whole map. -/
theorem mapK_full {os : List Ob} (y : Int) : (mapK os os.length y = none ∧ ¬ IsObj os y) ∨ ∃ j, j < os.length ∧ mapK os os.length y = some (os.getD j ob0).val ∧ (os.getD j ob0).adr = y ∧ IsObj os y := by
  rcases mapK_any (os := os) (y := y) os.length (Nat.le_refl _) with ⟨h1, h2⟩ | ⟨j, h1, h2, h3⟩
  · refine .inl ⟨h1, ?_⟩
    rintro ⟨o, ho, h⟩
    obtain ⟨i, hi, rfl⟩ := List.mem_iff_getElem.1 ho
    exact h2 i hi (by rw [getD_of hi]; exact h)
  · exact .inr ⟨j, h1, h2, h3, _, getD_in h1, h3⟩
theorem zObj (w : World) : (zeroValue 37).run Try.prog w = .ok (.agg #[.int .i64 0, .int .i64 0, .int .i64 0, .int .i64 0, .bool false, .slice none 0 0]) w := by kernel_rfl
theorem zBool (w : World) : (zeroValue 4).run Try.prog w = .ok (.bool false) w := by kernel_rfl

set_option maxRecDepth 100000 in
set_option maxHeartbeats 1600000 in
theorem is_walk (v : Vw) (sh mb : Nat) (a : Int) (w : World) (H : ShAt w v sh mb) : Calls Try.prog 57 #[.pointer (some ⟨sh, 0, none⟩), .int .i64 a] w fun e w' => e = .returned (.bool (decide (Known v.os a))) ∧ Below w.heap.size w w' := by
  have hm : w.cell? ⟨sh, 10, none⟩ = some (.map (some mb)) := H.cell (Upd.refl [] w) (by simp) rfl
  have HT := Lib.hid H.tab
  have hk0 : decide (Known v.os a) = ((a == 0) || decide (IsObj v.os a)) := by
    unfold Known
    by_cases h0 : a = 0 <;> simp [h0]
  rw [hk0]
  clear hk0
  rcases mapK_full (os := v.os) a with ⟨h1, h2⟩ | ⟨j, -, h1, -, h2⟩
  · have H1 := Lib.hid h1
    rw [decide_eq_false h2]
    clear h1 h2 H
    generalize v.os.length = n at *
    obtain ⟨b0, hb0⟩ : ∃ b, (a == 0) = b := ⟨_, rfl⟩
    rw [hb0]
    cases b0 with
    | false =>
      go_enter Try.func57, Try.ntmps57
      go_wp2_with (at_lookup; refine wpList_look_tab_ok rfl _ _ 58 3 37 rfl Try.underlying58 Try.underlying3 HT.out (zObj _) (by rfl) a (by rfl) ?_; rw [H1.out]; simp only [Option.getD_none, Option.isSome_none])
      go_ret
      exact ⟨rfl, ((Below.refl _ _).alloc (Nat.le_refl _) _)⟩
    | true =>
      go_enter Try.func57, Try.ntmps57
      go_wp2_with (at_lookup; refine wpList_look_tab_ok rfl _ _ 58 3 37 rfl Try.underlying58 Try.underlying3 HT.out (zObj _) (by rfl) a (by rfl) ?_; rw [H1.out]; simp only [Option.getD_none, Option.isSome_none])
      go_ret
      exact ⟨rfl, ((Below.refl _ _).alloc (Nat.le_refl _) _)⟩
  · have H1 := Lib.hid h1
    rw [decide_eq_true h2]
    clear h1 h2 H
    generalize v.os.length = n at *
    obtain ⟨b0, hb0⟩ : ∃ b, (a == 0) = b := ⟨_, rfl⟩
    rw [hb0]
    generalize v.os.getD j ob0 = ob at *
    obtain ⟨ad, kd, cl, ln, fi, wa, wc, ws⟩ := ob
    simp only [Ob.val] at H1
    generalize ws.length = zz at *
    cases b0 with
    | false =>
      go_enter Try.func57, Try.ntmps57
      go_wp2_with (at_lookup; refine wpList_look_tab_ok rfl _ _ 58 3 37 rfl Try.underlying58 Try.underlying3 HT.out (zObj _) (by rfl) a (by rfl) ?_; rw [H1.out]; simp only [Option.getD_some, Option.isSome_some])
      go_ret
      exact ⟨rfl, ((Below.refl _ _).alloc (Nat.le_refl _) _)⟩
    | true =>
      go_enter Try.func57, Try.ntmps57
      go_wp2_with (at_lookup; refine wpList_look_tab_ok rfl _ _ 58 3 37 rfl Try.underlying58 Try.underlying3 HT.out (zObj _) (by rfl) a (by rfl) ?_; rw [H1.out]; simp only [Option.getD_some, Option.isSome_some])
      go_ret
      exact ⟨rfl, ((Below.refl _ _).alloc (Nat.le_refl _) _)⟩
set_option maxRecDepth 100000 in
set_option maxHeartbeats 1600000 in
theorem object_walk (v : Vw) (sh mb : Nat) (a : Int) (w : World) (H : ShAt w v sh mb) (h1 : R1 v.os) : Calls Try.prog 58 #[.pointer (some ⟨sh, 0, none⟩), .int .i64 a] w fun e w' => e = .returned (.bool (decide (IsObj v.os a))) ∧ Below w.heap.size w w' := by
  have HI : Hid (∀ W, Upd [] w W → Calls Try.prog 57 #[.pointer (some ⟨sh, 0, none⟩), .int .i64 a] W fun e w' => e = .returned (.bool (decide (Known v.os a))) ∧ Below W.heap.size W w') := Lib.hid (fun W u => is_walk v sh mb a W (H.upd u (by simp)))
  have hp : IsObj v.os a → 64 ≤ a := fun h => h1.pos h
  by_cases h0 : a = 0
  · subst h0
    have hno : ¬ IsObj v.os 0 := fun h => by have := hp h; omega
    rw [decide_eq_false hno]
    clear hno hp HI H h1
    go_enter Try.func58, Try.ntmps58
    go_wp2_with fail
    go_ret
    exact ⟨rfl, Below.refl _ _⟩
  · have hk : decide (Known v.os a) = decide (IsObj v.os a) := by
      unfold Known
      simp [h0]
    rw [hk] at HI
    generalize decide (IsObj v.os a) = r at *
    have h0b : (a != 0) = true := by simpa using h0
    have h0c : (a == 0) = false := by simpa using h0
    clear hk hp H h1 h0
    go_enter Try.func58, Try.ntmps58
    go_wp2_with fail
    refine (HI.out _ (Upd.refl [] w)).mono ?_
    rintro e w5 ⟨rfl, hb⟩
    have HB := Lib.hid hb
    clear hb
    go_wp2_with fail
    go_ret
    exact ⟨rfl, HB.out⟩
set_option maxRecDepth 100000 in
set_option maxHeartbeats 1600000 in
theorem holds_walk (v : Vw) (sh mb : Nat) (w : World) (H : ShAt w v sh mb) (h1 : R1 v.os) (hlr : v.rs.length ≤ 4611686018427387903) (hlh : v.hs.length ≤ 4611686018427387903) : Calls Try.prog 33 #[.agg #[.pointer (some ⟨sh, 0, none⟩)]] w (Says (R3 v.os v.rs v.hs) w) := by
  have HIS : Hid (∀ a W, Upd [] w W → Calls Try.prog 57 #[.pointer (some ⟨sh, 0, none⟩), .int .i64 a] W fun e w' => e = .returned (.bool (decide (Known v.os a))) ∧ Below W.heap.size W w') := Lib.hid (fun a W u => is_walk v sh mb a W (H.upd u (by simp)))
  have HOS : Hid (∀ a W, Upd [] w W → Calls Try.prog 58 #[.pointer (some ⟨sh, 0, none⟩), .int .i64 a] W fun e w' => e = .returned (.bool (decide (IsObj v.os a))) ∧ Below W.heap.size W w') := Lib.hid (fun a W u => object_walk v sh mb a W (H.upd u (by simp)) h1)
  have HR : Hid (∀ nr nh, v.rs.length = nr → v.hs.length = nh → nr = 16 → (∀ i, i < nr → Known v.os (v.rs.getD i 0)) → (∀ i, i < nh → IsObj v.os (v.hs.getD i (0, 0)).2) → R3 v.os v.rs v.hs) := Lib.hid (fun _ _ h1 h2 h3 h4 h5 => ⟨by omega, fun i hi => h4 i (by omega), fun i hi => h5 i (by omega)⟩)
  have HN1 : Hid (v.rs.length ≠ 16 → ¬ R3 v.os v.rs v.hs) := Lib.hid (fun h h2 => h h2.1)
  have HN2 : Hid (∀ nr i, v.rs.length = nr → i < nr → ¬ Known v.os (v.rs.getD i 0) → ¬ R3 v.os v.rs v.hs) := Lib.hid (fun nr i h1 h2 h3 h4 => h3 (h4.2.1 i (by omega)))
  have HN3 : Hid (∀ nh i, v.hs.length = nh → i < nh → ¬ IsObj v.os (v.hs.getD i (0, 0)).2 → ¬ R3 v.os v.rs v.hs) := Lib.hid (fun nr i h1 h2 h3 h4 => h3 (h4.2.2 i (by omega)))
  have HSH := Lib.hid H
  clear H h1
  generalize R3 v.os v.rs v.hs = R at *
  obtain ⟨nr, hnr⟩ : ∃ n, v.rs.length = n := ⟨_, rfl⟩
  obtain ⟨nh, hnh⟩ : ∃ n, v.hs.length = n := ⟨_, rfl⟩
  rw [hnr] at HN1 hlr
  rw [hnh] at hlh
  have HNR := Lib.hid hnr
  have HNH := Lib.hid hnh
  clear hnr hnh
  go_enter Try.func33, Try.ntmps33
  go_upto_region 1 with fail
  generalize hW : World.alloc w (Obj.cells _ 62) = w1
  have HB : Hid (Blk w1 w.heap.size 62 #[.pointer (some ⟨sh, 0, none⟩)]) := Lib.hid (by rw [← hW]; exact Blk.new _ _ _)
  have HU : Hid (Upd [] w w1) := Lib.hid (by rw [← hW]; exact (Upd.refl [] w).alloc _)
  have HS1 : Hid (ShAt w1 v sh mb) := Lib.hid (HSH.out.upd HU.out (by simp))
  clear hW
  generalize hq0 : w.heap.size = rb at *
  have hrw : rb < w1.heap.size := HB.out.lt
  have HQ0 := Lib.hid hq0
  clear hq0
  have HCS : Hid (∀ W, Upd [] w1 W → W.cell? ⟨rb, 0, none⟩ = some (.pointer (some ⟨sh, 0, none⟩)) ∧ W.cell? ⟨sh, 1, none⟩ = some (.slice v.ha nh v.hc) ∧ W.cell? ⟨sh, 2, none⟩ = some (.slice v.ra nr v.rc)) := Lib.hid (fun W u => ⟨(HB.out.upd u (by simp)).one_of, by rw [← HNH.out]; exact HS1.out.cell u (by simp) rfl, by rw [← HNR.out]; exact HS1.out.cell u (by simp) rfl⟩)
  have HRO := Lib.hid HSH.out.sees.roots
  have HHE := Lib.hid HSH.out.sees.helds
  generalize v.ra = ra at *
  generalize v.rc = rc at *
  generalize v.ha = ha at *
  generalize v.hc = hc at *
  obtain ⟨r0, s1, s2⟩ := HCS.out _ (Upd.refl [] w1)
  by_cases h16 : nr = 16
  · have h16a : ((nr : Int) == 16) = true := by simp; omega
    have h16b : ((nr : Int) != 16) = false := by simp; omega
    have H16 := Lib.hid h16
    clear h16 HN1
    go_upto_block 0 with fail
    clear r0 s1 s2
    go_cut [] (fun wx => Hid (Upd [] w1 wx) ∧ Hid (∀ i, i < nr → Known v.os (v.rs.getD i 0)))
    case first =>
      go_wp2_with fail
      go_loopg [22] nr (fun gk i wr => ∃ j : Nat, gk = nr - j ∧ j ≤ nr ∧ i = .int .i64 j ∧ Hid (Upd [] w1 wr) ∧ Hid (∀ m, m < j → Known v.os (v.rs.getD m 0)))
      case atStart => exact ⟨0, rfl, by omega, rfl, Lib.hid (Upd.refl _ _), Lib.hid (fun m h => by omega)⟩
      case round =>
        obtain ⟨j, rfl, hj, rfl, HV, HP⟩ := hrel
        by_cases hlt : j < nr
        · obtain ⟨b, off, hra, hb, c0⟩ := (Reads.upd HRO.out (HU.out.trans HV.out) (by simp)).at HNR.out hlt
          subst hra
          obtain ⟨r0, -, -⟩ := HCS.out _ HV.out
          have HKJ : Hid (¬ Known v.os (v.rs.getD j 0) → ¬ R) := Lib.hid (HN2.out nr j HNR.out hlt)
          obtain ⟨x, hx⟩ : ∃ x, v.rs.getD j 0 = x := ⟨_, rfl⟩
          rw [hx] at HKJ c0
          have HXJ := Lib.hid hx
          have hk := HIS.out x _ (HU.out.trans HV.out)
          clear hx
          by_cases hkn : Known v.os x
          · rw [decide_eq_true hkn] at hk
            have HK := Lib.hid hk
            have HL := Lib.hid hkn
            clear hk hkn
            go_wp2_with fail
            refine HK.out.mono ?_
            rintro e w5 ⟨rfl, hb5⟩
            have HX : Hid (Upd [] wr w5) := Lib.hid (Upd.of_below hb5)
            clear hb5 c0 r0
            go_wp2_with fail
            go_roundg (nr - (j + 1))
            case measure => omega
            case rel =>
              refine ⟨j + 1, rfl, by omega, by go_num, Lib.hid (HV.out.trans HX.out), Lib.hid (fun m hm => ?_)⟩
              rcases Nat.eq_or_lt_of_le (show m ≤ j by omega) with rfl | h3
              · rw [HXJ.out]; exact HL.out
              · exact HP.out m h3
          · rw [decide_eq_false hkn] at hk
            have HK := Lib.hid hk
            have HFR := Lib.hid (HKJ.out hkn)
            clear hk hkn
            go_wp2_with fail
            refine HK.out.mono ?_
            rintro e w5 ⟨rfl, hb5⟩
            have HX : Hid (Upd [] wr w5) := Lib.hid (Upd.of_below hb5)
            clear hb5 c0 r0
            go_wp2_with fail
            go_ret
            exact ⟨false, rfl, by simp; exact HFR.out, ((HU.out.trans HV.out).trans HX.out).below⟩
        · obtain rfl : j = nr := by omega
          go_wp2_with fail
          go_meet
          exact ⟨HV, HP⟩
    case rest =>
      obtain ⟨HV0, HP0⟩ := hcut
      obtain ⟨r0, s1, -⟩ := HCS.out _ HV0.out
      go_wp2_with fail
      clear r0 s1
      go_loopg [39] nh (fun gk i wr => ∃ j : Nat, gk = nh - j ∧ j ≤ nh ∧ i = .int .i64 j ∧ Hid (Upd [] w1 wr) ∧ Hid (∀ m, m < j → IsObj v.os (v.hs.getD m (0, 0)).2))
      case atStart => exact ⟨0, rfl, by omega, rfl, HV0, Lib.hid (fun m h => by omega)⟩
      case round =>
        obtain ⟨j, rfl, hj, rfl, HV, HP⟩ := hrel
        by_cases hlt : j < nh
        · obtain ⟨b, off, hra, hb, c0, c1⟩ := (HHE.out.upd (HU.out.trans HV.out) (by simp)).at HNH.out hlt
          subst hra
          have HKJ : Hid (¬ IsObj v.os (v.hs.getD j (0, 0)).2 → ¬ R) := Lib.hid (HN3.out nh j HNH.out hlt)
          generalize (v.hs.getD j (0, 0)).1 = y at *
          obtain ⟨x, hx⟩ : ∃ x, (v.hs.getD j (0, 0)).2 = x := ⟨_, rfl⟩
          rw [hx] at HKJ c1
          have HXJ := Lib.hid hx
          clear hx
          go_upto_region 12 with fail
          generalize hW : World.alloc wr (Obj.cells _ 39) = wo
          have HBO : Hid (Blk wo wr.heap.size 39 _) := Lib.hid (by rw [← hW]; exact Blk.new _ _ _)
          have HX : Hid (Upd [] wr wo) := Lib.hid (by rw [← hW]; exact (Upd.refl [] wr).alloc _)
          clear hW c0 c1
          generalize hg : wr.heap.size = g at *
          have HG := Lib.hid hg
          clear hg
          have e1 : wo.cell? ⟨g, 1, none⟩ = some (.int .i64 x) := vw_cells HBO.out (Upd.refl _ _) rfl
          obtain ⟨r0, -, -⟩ := HCS.out _ (HV.out.trans HX.out)
          have hk := HOS.out x _ ((HU.out.trans HV.out).trans HX.out)
          by_cases hkn : IsObj v.os x
          · rw [decide_eq_true hkn] at hk
            have HK := Lib.hid hk
            have HL := Lib.hid hkn
            clear hk hkn
            go_wp2_with fail
            refine HK.out.mono ?_
            rintro e w5 ⟨rfl, hb5⟩
            have HX5 : Hid (Upd [] wr w5) := Lib.hid (HX.out.trans (Upd.of_below hb5))
            clear hb5 e1 r0
            go_wp2_with fail
            go_roundg (nh - (j + 1))
            case measure => omega
            case rel =>
              refine ⟨j + 1, rfl, by omega, by go_num, Lib.hid (HV.out.trans HX5.out), Lib.hid (fun m hm => ?_)⟩
              rcases Nat.eq_or_lt_of_le (show m ≤ j by omega) with rfl | h3
              · rw [HXJ.out]; exact HL.out
              · exact HP.out m h3
          · rw [decide_eq_false hkn] at hk
            have HK := Lib.hid hk
            have HFR := Lib.hid (HKJ.out hkn)
            clear hk hkn
            go_wp2_with fail
            refine HK.out.mono ?_
            rintro e w5 ⟨rfl, hb5⟩
            have HX5 : Hid (Upd [] wr w5) := Lib.hid (HX.out.trans (Upd.of_below hb5))
            clear hb5 e1 r0
            go_wp2_with fail
            go_ret
            exact ⟨false, rfl, by simp; exact HFR.out, ((HU.out.trans HV.out).trans HX5.out).below⟩
        · obtain rfl : j = nh := by omega
          have HT := Lib.hid (HR.out _ _ HNR.out HNH.out H16.out HP0.out HP.out)
          go_wp2_with fail
          go_ret
          exact ⟨true, rfl, by simp; exact HT.out, (HU.out.trans HV.out).below⟩
  · have h16a : ((nr : Int) == 16) = false := by simp; omega
    have h16b : ((nr : Int) != 16) = true := by simp; omega
    have HFR := Lib.hid (HN1.out h16)
    clear h16
    go_wp2_with fail
    go_ret
    exact ⟨false, rfl, by simp; exact HFR.out, HU.out.below⟩
end Go.Proofs.Ytnhgmmjlhhgdoaa
