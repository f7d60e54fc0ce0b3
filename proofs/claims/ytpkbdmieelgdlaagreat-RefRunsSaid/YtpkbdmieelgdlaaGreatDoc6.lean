/- The document's space: Find. -/
import Derived.Test.YtpkbdmieelgdlaaGreatDoc5
namespace Go.Proofs.YtpkbdmieelgdlaaGreat
open Go Go.RowKit

def FoundV (x : Int × Int × Bool) : Value := .agg #[.int .i64 x.1, .int .i64 x.2.1, .bool x.2.2]
/-- How the found block is handed back. -/
theorem gotF_ret {w : World} {r : Nat} {x y z : Value} {a : Act} {R : Ending → World → Prop} (hB : Blk w r 155 #[x, y, z]) (h4 : a.tmps.getD 4 undef = .pointer (some ⟨r, 0, none⟩)) (hd : a.defers = [])
    (hR : R (.returned (.agg #[x, y, z])) w) : bodyPost Tryz.prog Tryz.f98 R .ret a w :=
  ⟨hd, _, results_cell_row (fn := Tryz.f98) rfl _ _ r _ _ (0, 0) _ h4 hB Tryz.underlying155 rfl (by kernel_rfl), hR⟩
/-- The result's cell. -/
structure FndAt (w0 w : World) (r : Nat) : Prop where
  blk : Blk w r 155 #[.int .i64 0, .int .i64 0, .bool false]
  new : w0.heap.size ≤ r
section
variable {w0 w w' : World} {r m n : Nat} {D : DLay} {S : Sp} {O : Nat → Prop}
theorem FndAt.cells (h : FndAt w0 w r) : w.cell? ⟨r, 0, none⟩ = some (.int .i64 0) ∧ w.cell? ⟨r, 1, none⟩ = some (.int .i64 0) ∧ w.cell? ⟨r, 2, none⟩ = some (.bool false) ∧ w.frozen? ⟨r, 0, none⟩ = false ∧ w.frozen? ⟨r, 1, none⟩ = false ∧ w.frozen? ⟨r, 2, none⟩ = false := ⟨h.blk.cell 0, h.blk.cell 1, h.blk.cell 2, h.blk.frozen 0, h.blk.frozen 1, h.blk.frozen 2⟩
theorem FndAt.upd0 (h : FndAt w0 w r) (hu : Upd [] w w') : FndAt w0 w' r := ⟨h.blk.upd hu (by simp), h.new⟩
theorem FndAt.put (h : FndAt w0 w r) (u v x : Value) : Blk (((w.setCell ⟨r, 0, none⟩ u).setCell ⟨r, 1, none⟩ v).setCell ⟨r, 2, none⟩ x) r 155 #[u, v, x] := ((h.blk.set_ 0 u).set_ 1 v).set_ 2 x
theorem FndAt.done (h : FndAt w0 w r) (hu : Upd [] w0 w) (u v x : Value) : Upd [] w0 (((w.setCell ⟨r, 0, none⟩ u).setCell ⟨r, 1, none⟩ v).setCell ⟨r, 2, none⟩ x) := ((hu.setCell (.inr h.new) _).setCell (.inr h.new) _).setCell (.inr h.new) _
theorem dfind_out (m : Nat) (S : Sp) (a : Int) (w : World) (H : DocO w m S O) (ha : a < 0 ∨ S.W.length ≤ a) :
    Calls Tryz.prog 98 #[.pointer (some ⟨m, 0, none⟩), .int .i64 a] w fun e w' => e = .returned (FoundV (0, 0, false)) ∧ Upd [] w w' := by
  obtain ⟨D, H, _⟩ := H
  have HG : Hid (FndAt w (w.alloc (.cells #[.int .i64 0, .int .i64 0, .bool false] 155)) w.heap.size) := Lib.hid ⟨Blk.new _ _ _, Nat.le_refl _⟩
  have HUA : Hid (Upd [] w (w.alloc (.cells #[.int .i64 0, .int .i64 0, .bool false] 155))) := Lib.hid ((Upd.refl [] w).alloc _)
  have HR := Lib.hid (H.raw.upd0 HUA.out)
  obtain ⟨c0, c1, c2, c3⟩ := HR.out.cells
  obtain ⟨x0, x1, x2, x3, x4, x5⟩ := HG.out.cells
  have hn2 := H.wf.n2
  have hlen := H.wf.len
  rw [hlen] at ha
  obtain ⟨np, hnp⟩ : ∃ np, S.pg.length = np := ⟨_, rfl⟩
  rw [hnp] at c0 hn2 ha
  clear H hlen hnp
  go_enter Tryz.func98, Tryz.ntmps98
  rcases ha with ha | ha
  · go_wp2_with fail
    exact gotF_ret HG.out.blk rfl rfl ⟨rfl, HUA.out⟩
  · have h0 : 0 ≤ a := by omega
    go_wp2_with fail
    exact gotF_ret HG.out.blk rfl rfl ⟨rfl, HUA.out⟩
set_option maxRecDepth 100000 in
set_option maxHeartbeats 1600000 in
theorem dfind_small (m : Nat) (S : Sp) (a : Int) (p c i : Nat) (l : List Bool) (w : World) (H : DocO w m S O) (h0 : 0 ≤ a) (ha : a < S.W.length) (hp : a / 64 = p) (hat : atP S.pg p = .small c l) (hi : a % 64 / ((wordsOf c : Nat) : Int) = i) (hil : i < l.length) :
    Calls Tryz.prog 98 #[.pointer (some ⟨m, 0, none⟩), .int .i64 a] w fun e w' => e = .returned (FoundV (if l.getD i false then ((p : Int) * 64 + (i : Int) * (wordsOf c : Nat), ((wordsOf c : Nat) : Int), true) else (0, 0, false))) ∧ Upd [] w w' := by
  obtain ⟨D, H, _⟩ := H
  have HG : Hid (FndAt w (w.alloc (.cells #[.int .i64 0, .int .i64 0, .bool false] 155)) w.heap.size) := Lib.hid ⟨Blk.new _ _ _, Nat.le_refl _⟩
  have HUA : Hid (Upd [] w (w.alloc (.cells #[.int .i64 0, .int .i64 0, .bool false] 155))) := Lib.hid ((Upd.refl [] w).alloc _)
  have HR := Lib.hid (H.raw.upd0 HUA.out)
  obtain ⟨c0, c1, c2, c3⟩ := HR.out.cells
  obtain ⟨x0, x1, x2, x3, x4, x5⟩ := HG.out.cells
  have hn2 := H.wf.n2
  have hlen := H.wf.len
  obtain ⟨hc, hll⟩ := H.wf.small p c l hat
  have hwp := words_pos hc
  have hpn := atP_in hat (by simp)
  have hrm := room_pos hc
  have c4 := HR.out.kAt (p := p) (by rw [kinds_len]; exact hpn)
  rw [kinds_at hpn, hat] at c4
  obtain ⟨c4, _⟩ := c4
  change _ = some (Value.int .i64 ((c : Int) + 1)) at c4
  have c5 := (HR.out.taken.cell p).trans (takens_at D hpn)
  rw [hat] at c5
  change _ = some (Value.slice (some ⟨D.tk p, 0, none⟩) l.length l.length) at c5
  have HB := Lib.hid (H.bits p c l hat)
  have HTL := Lib.hid H.taken.lt
  have HC5 : Hid (w.cell? ⟨D.gt, p, none⟩ = some (.slice (some ⟨D.tk p, 0, none⟩) l.length l.length)) := Lib.hid (by have := (H.takenAt hpn).1; rw [hat] at this; exact this)
  have HZ : Hid (sizesL.getD c 0 = (wordsOf c : Nat)) := Lib.hid (sizes_at hc)
  have hl32 : l.length ≤ 32 := by omega
  have hfit := block_fits hc (show i < roomOf c by omega)
  have hiw' : (i : Int) * (wordsOf c : Nat) ≤ 64 := by rw [← Int.natCast_mul]; omega
  have hiw0 : 0 ≤ (i : Int) * (wordsOf c : Nat) := by rw [← Int.natCast_mul]; omega
  obtain ⟨wo, hwo⟩ : ∃ wo, wordsOf c = wo := ⟨_, rfl⟩
  rw [hwo] at HZ hwp hi hiw' hiw0 ⊢
  obtain ⟨np, hnp⟩ : ∃ np, S.pg.length = np := ⟨_, rfl⟩
  rw [hlen, hnp] at ha
  rw [hnp] at c0 c1 c2 c3 hn2 hpn HR
  obtain ⟨b, hb⟩ : ∃ b, l.getD i false = b := ⟨_, rfl⟩
  have HBI : Hid (∀ W, Upd [] w W → W.cell? ⟨D.tk p, i, none⟩ = some (.bool b)) := Lib.hid fun W hu => by rw [← hb]; exact (HB.out.upd hu (by simp)).bool i hil
  rw [hb]
  have hcw : (c : Int) + 1 - 1 = c := by omega
  clear hlen hnp hll hrm hfit hwo hb hat HB H
  go_enter Tryz.func98, Tryz.ntmps98
  go_wp2_with fail
  refine (sizes1_walk _).mono ?_
  rintro e w2 ⟨h, rfl, hb2, hh2, hu2⟩
  have c6 := hb2.int c (by show c < 5; exact hc)
  have HU2 := Lib.hid (HUA.out.trans (Upd.of_below hu2))
  have HG2 := Lib.hid (HG.out.upd0 (Upd.of_below hu2))
  have HR2 := Lib.hid (HR.out.upd0 (Upd.of_below hu2))
  have d5 := (HU2.out.cell (p := ⟨D.gt, p, none⟩) HTL.out (by simp)).trans HC5.out
  have d6 := HBI.out _ HU2.out
  rw [HZ.out] at c6
  clear hb2 hh2 hu2 c0 c1 c2 c3 x0 x1 x2 x3 x4 x5 HR HG
  obtain ⟨c0, c1, c2, c3⟩ := HR2.out.cells
  obtain ⟨x0, x1, x2, x3, x4, x5⟩ := HG2.out.cells
  cases b
  · go_wp2_with fail
    exact gotF_ret (HG2.out.put _ _ _) rfl rfl ⟨rfl, HG2.out.done HU2.out _ _ _⟩
  · go_wp2_with fail
    exact gotF_ret (HG2.out.put _ _ _) rfl rfl ⟨rfl, HG2.out.done HU2.out _ _ _⟩

set_option maxRecDepth 100000 in
set_option maxHeartbeats 3200000 in
theorem dfind_walk (m : Nat) (S : Sp) (a : Int) (p q : Nat) (z mz : Int) (w : World) (H : DocO w m S O) (h0 : 0 ≤ a) (ha : a < S.W.length) (hp : a / 64 = p) (hzp : kindZ (atP S.pg p) < 1 ∨ 5 < kindZ (atP S.pg p)) (hqp : q ≤ p) (h7 : ∀ j, q < j → j ≤ p → kindZ (atP S.pg j) = 7) (hz : kindZ (atP S.pg q) = z) (hz7 : z ≠ 7) (hm : manyZ (atP S.pg q) = mz) (hm1 : 0 ≤ mz) (hm2 : mz ≤ 256) :
    Calls Tryz.prog 98 #[.pointer (some ⟨m, 0, none⟩), .int .i64 a] w fun e w' => e = .returned (FoundV (if z = 6 then ((q : Int) * 64, mz * 64, true) else (0, 0, false))) ∧ Upd [] w w' := by
  obtain ⟨D, H, _⟩ := H
  have HG : Hid (FndAt w (w.alloc (.cells #[.int .i64 0, .int .i64 0, .bool false] 155)) w.heap.size) := Lib.hid ⟨Blk.new _ _ _, Nat.le_refl _⟩
  have HUA : Hid (Upd [] w (w.alloc (.cells #[.int .i64 0, .int .i64 0, .bool false] 155))) := Lib.hid ((Upd.refl [] w).alloc _)
  have HR := Lib.hid (H.raw.upd0 HUA.out)
  obtain ⟨c0, c1, c2, c3⟩ := HR.out.cells
  obtain ⟨x0, x1, x2, x3, x4, x5⟩ := HG.out.cells
  have hn2 := H.wf.n2
  have hlen := H.wf.len
  have hpn : p < S.pg.length := by omega
  have HK : Hid (∀ j, j < S.pg.length → (w.alloc (.cells #[.int .i64 0, .int .i64 0, .bool false] 155)).cell? ⟨D.gk, j, none⟩ = some (.int .i64 (kindZ (atP S.pg j)))) := Lib.hid fun j hj => by
    have := (HR.out.kAt (p := j) (by rw [kinds_len]; exact hj)).1
    rwa [kinds_at hj] at this
  have HM : Hid ((w.alloc (.cells #[.int .i64 0, .int .i64 0, .bool false] 155)).cell? ⟨D.gm, q, none⟩ = some (.int .i64 mz)) := Lib.hid (by
    have := (HR.out.mAt (p := q) (by rw [manys_len]; omega)).1
    rwa [manys_at (by omega), hm] at this)
  have H7 := Lib.hid h7
  have HZ := Lib.hid hz
  have c4 := HK.out p hpn
  obtain ⟨zp, hzz⟩ : ∃ zp, kindZ (atP S.pg p) = zp := ⟨_, rfl⟩
  have HZP := Lib.hid hzz
  rw [hzz] at c4 hzp
  obtain ⟨np, hnp⟩ : ∃ np, S.pg.length = np := ⟨_, rfl⟩
  rw [hlen, hnp] at ha
  rw [hnp] at c0 c1 c2 c3 hn2 hpn HR HK
  clear hlen hnp H h7 hz hm hzz
  have c5 := HM.out
  have c6 := HK.out q (by omega)
  rw [HZ.out] at c6
  go_enter Tryz.func98, Tryz.ntmps98
  rcases hzp with hzp | hzp
  all_goals
    go_wp2_with fail
    go_loopg [5] (p - q) (fun gk i wr => ∃ j : Nat, gk = j - q ∧ q ≤ j ∧ j ≤ p ∧ i = .int .i64 j ∧ wr = w.alloc (.cells #[.int .i64 0, .int .i64 0, .bool false] 155))
    case atStart => exact ⟨p, rfl, hqp, Nat.le_refl _, rfl, rfl⟩
    case round =>
      obtain ⟨j, rfl, hj, hj2, rfl, rfl⟩ := hrel
      by_cases hlt : q < j
      · have c7 := HK.out j (by omega)
        rw [H7.out j hlt hj2] at c7
        obtain ⟨t, rfl⟩ : ∃ t, j = t + 1 := ⟨j - 1, by omega⟩
        have hst : ((t + 1 : Nat) : Int) - 1 = t := by omega
        have hpos : (0 : Int) < ((t + 1 : Nat) : Int) := by omega
        go_wp2_with fail
        go_roundg (t - q)
        case measure => omega
        case rel => exact ⟨t, rfl, by omega, by omega, by go_num, rfl⟩
      · obtain rfl : j = q := by omega
        have h71 : (z != 7) = true := by simp [hz7]
        have h72 : (z == 7) = false := by simp [hz7]
        by_cases h6 : z = 6
        · subst h6
          rcases Nat.eq_zero_or_pos j with hj0 | hj0
          · subst hj0
            go_wp2_with fail
            exact gotF_ret (Blk.new _ _ _) rfl rfl ⟨rfl, (Upd.refl [] w).alloc _⟩
          · go_wp2_with fail
            exact gotF_ret (Blk.new _ _ _) rfl rfl ⟨rfl, (Upd.refl [] w).alloc _⟩
        · have h61 : (z != 6) = true := by simp [h6]
          have h62 : (z == 6) = false := by simp [h6]
          rcases Nat.eq_zero_or_pos j with hj0 | hj0
          · subst hj0
            go_wp2_with fail
            exact gotF_ret HG.out.blk rfl rfl ⟨rfl, HUA.out⟩
          · go_wp2_with fail
            exact gotF_ret HG.out.blk rfl rfl ⟨rfl, HUA.out⟩

theorem doc_find (m : Nat) (S : Sp) (a : Int) (w : World) (H : DocO w m S O) :
    Calls Tryz.prog 98 #[.pointer (some ⟨m, 0, none⟩), .int .i64 a] w fun e w' => e = .returned (FoundV (S.find a)) ∧ Upd [] w w' := by
  have hwf : S.WF := by obtain ⟨D, H, _⟩ := H; exact H.wf
  by_cases hout : a < 0 ∨ S.W.length ≤ a
  · have e : S.find a = (0, 0, false) := if_pos hout
    rw [e]
    exact dfind_out m S a w H hout
  · have h0 : 0 ≤ a := by omega
    have h1 : a < S.W.length := by omega
    obtain ⟨p, hp⟩ : ∃ p : Nat, a / 64 = p := ⟨(a / 64).toNat, by omega⟩
    have hpn : p < S.pg.length := by have := hwf.len; omega
    have hn2 := hwf.n2
    have hS : ∀ x, atP S.pg p = x → S.find a = match x with
        | .small c l => if hasB l (a % 64 / wordsOf c) then (a / 64 * 64 + a % 64 / wordsOf c * wordsOf c, wordsOf c, true) else (0, 0, false)
        | .first k => (a / 64 * 64, k * 64, true)
        | .rest f => (f * 64, manyOf (atP S.pg f) * 64, true)
        | _ => (0, 0, false) := fun x hx => by
      unfold Sp.find
      rw [if_neg hout, show (a / 64).toNat = p from by omega, hx]
      all_goals (cases x <;> rfl)
    cases hx : atP S.pg p <;> rw [hS _ hx]
    case small c l =>
      obtain ⟨hc, hll⟩ := hwf.small p c l hx
      have hwp := words_pos hc
      have hwr := words_room hc
      have hq0 : 0 ≤ a % 64 / ((wordsOf c : Nat) : Int) := Int.ediv_nonneg (by omega) (by omega)
      have hq1 : a % 64 / ((wordsOf c : Nat) : Int) < (roomOf c : Nat) := by
        refine Int.ediv_lt_of_lt_mul (by omega) ?_
        rw [← Int.natCast_mul, Nat.mul_comm, hwr]
        omega
      obtain ⟨i, hi⟩ : ∃ i : Nat, a % 64 / ((wordsOf c : Nat) : Int) = i := ⟨(a % 64 / ((wordsOf c : Nat) : Int)).toNat, by omega⟩
      have hb : hasB l (i : Int) = l.getD i false := by unfold hasB; simp
      dsimp only
      rw [hi, hp, hb]
      exact dfind_small m S a p c i l w H h0 h1 hp hx hi (by omega)
    case zero =>
      refine (dfind_walk m S a p p (-1) 0 w H h0 h1 hp (.inl (by rw [hx]; decide)) (Nat.le_refl _) (fun j h2 h3 => by omega) (by rw [hx]; rfl) (by decide) (by rw [hx]; rfl) (by decide) (by decide)).mono fun e w' ⟨he, hu⟩ => ⟨?_, hu⟩
      rw [he]; rfl
    case free =>
      refine (dfind_walk m S a p p (0) 0 w H h0 h1 hp (.inl (by rw [hx]; decide)) (Nat.le_refl _) (fun j h2 h3 => by omega) (by rw [hx]; rfl) (by decide) (by rw [hx]; rfl) (by decide) (by decide)).mono fun e w' ⟨he, hu⟩ => ⟨?_, hu⟩
      rw [he]; rfl
    case first k =>
      obtain ⟨hk1, hk2, _⟩ := hwf.first p k hx
      refine (dfind_walk m S a p p 6 k w H h0 h1 hp (.inr (by rw [hx]; simp [kindZ])) (Nat.le_refl _) (fun j h2 h3 => by omega) (by rw [hx]; rfl) (by decide) (by rw [hx]; rfl) (by omega) (by omega)).mono fun e w' ⟨he, hu⟩ => ⟨?_, hu⟩
      rw [he, hp]; rfl
    case rest f =>
      obtain ⟨hf, k, hk, hlt⟩ := hwf.rest p f hx
      obtain ⟨hk1, hk2, hk3⟩ := hwf.first f k hk
      refine (dfind_walk m S a p f 6 k w H h0 h1 hp (.inr (by rw [hx]; simp [kindZ])) (by omega) (fun j h2 h3 => by rw [hk3 j h2 (by omega)]; rfl) (by rw [hk]; rfl) (by decide) (by rw [hk]; rfl) (by omega) (by omega)).mono fun e w' ⟨he, hu⟩ => ⟨?_, hu⟩
      rw [he]
      simp only [hk, manyOf, if_pos]
end
end Go.Proofs.YtpkbdmieelgdlaaGreat
