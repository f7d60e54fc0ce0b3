/- The program's first rule of a view. -/
import Derived.Test.YtnhgmmjlhhgdoaaEachV
namespace Go.Proofs.Ytnhgmmjlhhgdoaa
open Go Go.RowKit

/-- What the program's rules look at. -/
structure ShAt (w : World) (v : Vw) (sh mb : Nat) : Prop where
  blk : Blk w sh 60 (v.cells ++ [Value.map (some mb)]).toArray
  tab : Tab w mb v.os.length (mapK v.os v.os.length)
  sees : Sees w v
theorem ShAt.upd {w w' : World} {v : Vw} {sh mb : Nat} {E : List Nat} (h : ShAt w v sh mb) (hu : Upd E w w') (hE : ∀ i ∈ E, w.heap.size ≤ i) : ShAt w' v sh mb :=
  ⟨h.blk.upd hu (fun hm => by have := hE _ hm; have := h.blk.lt; omega), h.tab.upd hu (fun hm => by have := hE _ hm; have := h.tab.lt; omega), h.sees.upd hu hE⟩
/-- Cells of it, in whatever is grown of it. -/
theorem ShAt.cell {w w' : World} {v : Vw} {sh mb : Nat} {E : List Nat} (h : ShAt w v sh mb) (hu : Upd E w w') (hE : ∀ i ∈ E, w.heap.size ≤ i) {i : Nat} {x : Value} (hi : (v.cells ++ [Value.map (some mb)])[i]? = some x) : w'.cell? ⟨sh, i, none⟩ = some x := by
  rw [(h.upd hu hE).blk.cell i]
  simpa using hi
theorem Blk.one_of {w : World} {g : Nat} {t : TypeId} {x : Value} (h : Blk w g t #[x]) : w.cell? ⟨g, 0, none⟩ = some x := by rw [h.cell 0]; rfl

set_option maxRecDepth 100000 in
set_option maxHeartbeats 1600000 in
theorem heads1_walk (i x k c l : Int) (f : Bool) (wa : Option Addr) (z wc : Nat) (L : Int) (lb : Nat) (w : World) (hlb : Blk w lb 3 #[.int .i64 L]) :
    Calls Try.prog 54 #[.int .i64 i, .agg #[.int .i64 x, .int .i64 k, .int .i64 c, .int .i64 l, .bool f, .slice wa z wc], .pointer (some ⟨lb, 0, none⟩)] w
      fun e w' => e = .returned (.bool (decide (L < x) && mayB k c l f && ((z : Int) == l))) ∧ Blk w' lb 3 #[.int .i64 x] ∧ Upd [lb] w w' := by
  have HLB := Lib.hid hlb
  have hlw := hlb.lt
  clear hlb
  obtain ⟨b1, hb1⟩ : ∃ b, decide (L < x) = b := ⟨_, rfl⟩
  obtain ⟨b2, hb2⟩ : ∃ b, mayB k c l f = b := ⟨_, rfl⟩
  obtain ⟨b3, hb3⟩ : ∃ b, ((z : Int) == l) = b := ⟨_, rfl⟩
  have HMAY : Hid (∀ W, Calls Try.prog 55 #[.agg #[.int .i64 k, .int .i64 c, .int .i64 l, .bool f]] W fun e w' => e = .returned (.bool b2) ∧ Below W.heap.size W w') := Lib.hid (fun W => by rw [← hb2]; exact may_walk k c l f W)
  rw [hb1, hb2, hb3]
  clear hb2
  go_enter Try.func54, Try.ntmps54
  go_upto_region 1 with fail
  generalize hW : World.alloc w (Obj.cells _ 37) = w1
  have HB : Hid (Blk w1 w.heap.size 37 _) := Lib.hid (by rw [← hW]; exact Blk.new _ _ _)
  have HU : Hid (Upd [] w w1) := Lib.hid (by rw [← hW]; exact (Upd.refl [] w).alloc _)
  clear hW
  have hne : ¬ lb = w.heap.size := by omega
  generalize w.heap.size = q at *
  have hl1 : w1.cell? ⟨lb, 0, none⟩ = some (.int .i64 L) := (HLB.out.upd HU.out (by simp)).one_of
  have e0 : w1.cell? ⟨q, 0, none⟩ = some (.int .i64 x) := vw_cells HB.out (Upd.refl _ _) rfl
  have e1 : w1.cell? ⟨q, 1, none⟩ = some (.int .i64 k) := vw_cells HB.out (Upd.refl _ _) rfl
  have e2 : w1.cell? ⟨q, 2, none⟩ = some (.int .i64 c) := vw_cells HB.out (Upd.refl _ _) rfl
  have e3 : w1.cell? ⟨q, 3, none⟩ = some (.int .i64 l) := vw_cells HB.out (Upd.refl _ _) rfl
  have e4 : w1.cell? ⟨q, 4, none⟩ = some (.bool f) := vw_cells HB.out (Upd.refl _ _) rfl
  have e5 : w1.cell? ⟨q, 5, none⟩ = some (.slice wa z wc) := vw_cells HB.out (Upd.refl _ _) rfl
  cases b1 with
  | false =>
    clear hb3
    have hf1 : w1.frozen? ⟨lb, 0, none⟩ = false := (HLB.out.upd HU.out (by simp)).frozen 0
    go_wp2_with fail
    go_ret
    exact ⟨rfl, by simpa using ((HLB.out.upd HU.out (by simp)).set_ 0 (.int .i64 x)), (HU.out.mono (by simp)).setCell (.inl (by simp)) _⟩
  | true =>
    go_wp2_with fail
    refine (HMAY.out _).mono ?_
    rintro e w2 ⟨rfl, hb⟩
    have H12 : Hid (Upd [] w1 w2) := Lib.hid (Upd.of_below hb)
    have HU0 := HU
    replace HU : Hid (Upd [] w w2) := Lib.hid (HU.out.trans H12.out)
    have e0 : w2.cell? ⟨q, 0, none⟩ = some (.int .i64 x) := vw_cells HB.out H12.out rfl
    have e3 : w2.cell? ⟨q, 3, none⟩ = some (.int .i64 l) := vw_cells HB.out H12.out rfl
    have e5 : w2.cell? ⟨q, 5, none⟩ = some (.slice wa z wc) := vw_cells HB.out H12.out rfl
    have hl1 : w2.cell? ⟨lb, 0, none⟩ = some (.int .i64 L) := (HLB.out.upd HU.out (by simp)).one_of
    have hf1 : w2.frozen? ⟨lb, 0, none⟩ = false := (HLB.out.upd HU.out (by simp)).frozen 0
    cases b2 with
    | false =>
      clear hb3
      go_wp2_with fail
      go_ret
      exact ⟨rfl, by simpa using ((HLB.out.upd HU.out (by simp)).set_ 0 (.int .i64 x)), (HU.out.mono (by simp)).setCell (.inl (by simp)) _⟩
    | true =>
      cases b3 with
      | false =>
        go_wp2_with fail
        go_ret
        exact ⟨rfl, by simpa using ((HLB.out.upd HU.out (by simp)).set_ 0 (.int .i64 x)), (HU.out.mono (by simp)).setCell (.inl (by simp)) _⟩
      | true =>
        go_wp2_with fail
        go_ret
        exact ⟨rfl, by simpa using ((HLB.out.upd HU.out (by simp)).set_ 0 (.int .i64 x)), (HU.out.mono (by simp)).setCell (.inl (by simp)) _⟩
def lastZ (os : List Ob) (i : Nat) : Int := if i = 0 then 63 else (os.getD (i - 1) ob0).adr
theorem ok1_last {os : List Ob} {i : Nat} (h : ∀ m, m < i → Ok1 os m) : Ok1 os i ↔ lastZ os i < (os.getD i ob0).adr ∧ mayB (os.getD i ob0).kind (os.getD i ob0).cls (os.getD i ob0).len (os.getD i ob0).fin = true ∧ ((os.getD i ob0).ws.length : Int) = (os.getD i ob0).len := by
  unfold Ok1 lastZ
  rcases Nat.eq_zero_or_pos i with rfl | hi
  · rw [if_pos rfl]
    exact ⟨fun ⟨h1, _, h2⟩ => ⟨by omega, h2⟩, fun ⟨h1, h2⟩ => ⟨by omega, fun h => absurd h (by omega), h2⟩⟩
  · rw [if_neg (by omega)]
    have h0 := (h (i - 1) (by omega)).1
    exact ⟨fun ⟨_, h1, h2⟩ => ⟨h1 hi, h2⟩, fun ⟨h1, h2⟩ => ⟨by omega, fun _ => h1, h2⟩⟩
/-- What a round of the first rule leaves; where it stops. -/
def I1 (w : World) (lb : Nat) (os : List Ob) (i : Nat) (W : World) : Prop := Upd [lb] w W ∧ Blk W lb 3 #[.int .i64 (lastZ os i)] ∧ ∀ m, m < i → Ok1 os m
def NR (w : World) (lb : Nat) (R : Prop) (W : World) : Prop := Upd [lb] w W ∧ ¬ R
theorem says_of {w w' : World} {lb n : Nat} {R : Prop} {I : Nat → World → Prop} {e : Ending} (hlb : w.heap.size ≤ lb) (h : Rounds I (NR w lb R) n e w') (hI : ∀ W, I n W → Upd [lb] w W ∧ R) : Says R w e w' := by
  rcases h with ⟨rfl, h⟩ | ⟨rfl, h⟩
  · obtain ⟨h1, h2⟩ := hI _ h
    exact ⟨true, rfl, by simp [h2], h1.below_of (Nat.le_refl _) (by simpa using hlb)⟩
  · exact ⟨false, rfl, by simp [h.2], h.1.below_of (Nat.le_refl _) (by simpa using hlb)⟩
theorem heads_step {w W : World} {lb n : Nat} {os : List Ob} {i : Nat} (hn : os.length = n) (hi : i < n) (h : I1 w lb os i W) :
    Calls Try.prog 54 (#[.int .i64 (i : Int), (os.getD i ob0).val] ++ #[.pointer (some ⟨lb, 0, none⟩)]) W (Rounds (I1 w lb os) (NR w lb (R1 os)) (i + 1)) := by
  obtain ⟨h1, h2, h3⟩ := h
  refine (heads1_walk i _ _ _ _ _ _ _ _ _ lb W h2).mono ?_
  rintro e w' ⟨rfl, hb, hu⟩
  have hU : Upd [lb] w w' := h1.trans hu
  by_cases hok : Ok1 os i
  · refine .inl ⟨?_, hU, hb, fun m hm => ?_⟩
    · obtain ⟨g1, g2, g3⟩ := (ok1_last h3).1 hok
      simp only [g1, g2, g3, decide_true, Bool.and_self, beq_self_eq_true]
    · rcases Nat.eq_or_lt_of_le (show m ≤ i by omega) with rfl | h4
      · exact hok
      · exact h3 m h4
  · refine .inr ⟨?_, hU, fun h => hok (h i (by omega))⟩
    have hno := fun g => hok ((ok1_last h3).2 g)
    congr 2
    rw [← Bool.not_eq_true]
    intro hc
    simp only [Bool.and_eq_true, decide_eq_true_eq, beq_iff_eq] at hc
    exact hno ⟨hc.1.1, hc.1.2, hc.2⟩
set_option maxRecDepth 100000 in
set_option maxHeartbeats 1600000 in
theorem heads_walk (v : Vw) (sh mb : Nat) (w : World) (H : ShAt w v sh mb) (hl : v.os.length ≤ 9223372036854775807) : Calls Try.prog 31 #[.agg #[.pointer (some ⟨sh, 0, none⟩)]] w (Says (R1 v.os) w) := by
  have HSH := Lib.hid H
  have hsw := H.blk.lt
  clear H
  go_enter Try.func31, Try.ntmps31
  go_upto_region 2 with fail
  generalize hW : World.alloc w (Obj.cells _ 62) = w1
  have HB : Hid (Blk w1 w.heap.size 62 #[.pointer (some ⟨sh, 0, none⟩)]) := Lib.hid (by rw [← hW]; exact Blk.new _ _ _)
  have HU : Hid (Upd [] w w1) := Lib.hid (by rw [← hW]; exact (Upd.refl [] w).alloc _)
  have hs1 : w1.heap.size = w.heap.size + 1 := by rw [← hW]; simp
  clear hW
  rw [← hs1]
  have HLE : Hid (w.heap.size ≤ w1.heap.size) := Lib.hid (by omega)
  clear hs1
  generalize hW : World.alloc w1 (Obj.cells _ 3) = w2
  have HBL : Hid (Blk w2 w1.heap.size 3 #[.int .i64 63]) := Lib.hid (by rw [← hW]; exact Blk.new _ _ _)
  have H12 : Hid (Upd [] w1 w2) := Lib.hid (by rw [← hW]; exact (Upd.refl [] w1).alloc _)
  clear hW
  generalize hlb : w1.heap.size = lb at *
  have r0 : w2.cell? ⟨w.heap.size, 0, none⟩ = some (.pointer (some ⟨sh, 0, none⟩)) := (HB.out.upd H12.out (by simp)).one_of
  have HEA := each_walk 54 #[.pointer (some ⟨lb, 0, none⟩)] v.oa v.oc v.os.length v.os sh w w2 [lb] (I1 w lb v.os) (NR w lb (R1 v.os)) rfl hl (by simpa using HLE.out) HSH.out.sees.obs
    (HSH.out.cell (HU.out.trans H12.out) (by simp) rfl) ⟨(HU.out.trans H12.out).mono (by simp), HBL.out, fun m h => by omega⟩ (fun i W h => h.1) (fun i W W' h u => ⟨h.1.step u (by simp), h.2.1.upd u (by simp), h.2.2⟩)
    (Nat.lt_of_lt_of_le hsw (HU.out.trans H12.out).size) enters54 (fun i W hi h => heads_step rfl hi h)
  have HEAC := Lib.hid HEA
  clear HEA
  go_wp2_with fail
  refine HEAC.out.mono ?_
  intro e w5 hr
  have HS := Lib.hid (says_of HLE.out hr (fun W h => ⟨h.1, h.2.2⟩))
  clear hr
  obtain ⟨r, rfl, hr, hb⟩ := HS.out
  clear HS
  have HS : Hid (Says (R1 v.os) w (.returned (.bool r)) w5) := Lib.hid ⟨r, rfl, hr, hb⟩
  clear hr hb r0
  go_wp2_with fail
  go_ret
  exact HS.out
end Go.Proofs.Ytnhgmmjlhhgdoaa
