/- What is asked of both spaces at once. -/
import Derived.Test.YtpkbdmieelgdlaaSpaceRuns0
namespace Go.Proofs.Ytpkbdmieelgdlaa
open Go Go.RowKit

section
variable {w0 w : World} {s m : Nat} {S T : Sp} {Os Od : Nat → Prop}
theorem drop_keeps (h : S.WF) (a : Int) : ∃ S' r, S.drop a = (S', r) ∧ 0 ≤ r ∧ r ≤ 2 ∧ S'.pg.length = S.pg.length := by
  by_cases hno : (S.find a).2.2 = false ∨ (S.find a).1 ≠ a
  · exact ⟨S, 2, drop_none hno, by omega, by omega, rfl⟩
  · have hf : S.find a = (a, (S.find a).2.1, true) := by
      have h1 : (S.find a).1 = a := by
        rcases Int.decEq (S.find a).1 a with e | e
        · exact absurd (.inr e) hno
        · exact e
      have h2 : (S.find a).2.2 = true := by
        cases e : (S.find a).2.2
        · exact absurd (.inl e) hno
        · rfl
      rw [Prod.ext_iff, Prod.ext_iff]; exact ⟨h1, rfl, h2⟩
    obtain ⟨S', h1, h2⟩ := drop_some h hf
    exact ⟨S', 0, h1, by omega, by omega, h2.pg⟩
theorem alloc_keeps (h : S.WF) (n : Int) : ∃ (S' : Sp) (a r : Int), S.alloc n = (S', a, r) ∧ 0 ≤ r ∧ r ≤ 3 ∧ S'.pg.length = S.pg.length ∧ (r = 0 → ∃ k : Nat, a = k ∧ k < S'.W.length) := by
  rcases alloc_cases h n with ⟨_, h1⟩ | ⟨_, h1⟩ | ⟨_, S', a, h1, h2⟩
  · exact ⟨S, 0, 1, h1, by omega, by omega, rfl, fun h => by omega⟩
  · exact ⟨S, 0, 3, h1, by omega, by omega, rfl, fun h => by omega⟩
  · have hlo := h2.lo
    have hhi := h2.hi
    have hp := h2.pos
    have hl : S'.W.length = S.W.length := by rw [h2.wf.len, h.len, h2.pg]
    exact ⟨S', a, 0, h1, by omega, by omega, h2.pg, fun _ => ⟨a.toNat, by omega, by omega⟩⟩
theorem both_free (HB : Both w0 w s m S S Os Od) (a : Int) : ∃ S' r, 0 ≤ r ∧ r ≤ 2 ∧ S'.pg.length = S.pg.length ∧
    (∀ W, Upd [] w W → Calls Try.prog 11 #[.pointer (some ⟨s, 0, none⟩), .int .i64 a] W fun e w1 => e = .returned (.int .i64 r) ∧ ∃ Os', Hid (Both w0 w1 s m S' S Os' Od)) ∧
    ∀ W Os', Both w0 W s m S' S Os' Od → Calls Try.prog 12 #[.pointer (some ⟨m, 0, none⟩), .int .i64 a] W fun e w1 => e = .returned (.int .i64 r) ∧ ∃ Od', Hid (Both w0 w1 s m S' S' Os' Od') := by
  obtain ⟨S', r, hz, h1, h2, h3⟩ := drop_keeps HB.pro.wf a
  refine ⟨S', r, h1, h2, h3, fun W hu => ?_, fun W Os' HB' => ?_⟩
  · have hc := spo_free s S a W (HB.upd0 hu).pro
    rw [hz] at hc
    exact hc.mono fun e w1 ⟨he, O', hO, hk⟩ => ⟨he, O', Lib.hid ((HB.upd0 hu).stepS hO hk)⟩
  · have hc := doc_free m S a W HB'.doc
    rw [hz] at hc
    exact hc.mono fun e w1 ⟨he, O', hO, hk⟩ => ⟨he, O', Lib.hid (HB'.stepD hO hk)⟩
theorem both_alloc (HB : Both w0 w s m S S Os Od) (n : Int) : ∃ (S' : Sp) (a r : Int), 0 ≤ r ∧ r ≤ 3 ∧ S'.pg.length = S.pg.length ∧ (r = 0 → ∃ k : Nat, a = k ∧ k < S'.W.length) ∧
    (∀ W, Upd [] w W → Calls Try.prog 13 #[.pointer (some ⟨s, 0, none⟩), .int .i64 n] W fun e w1 => e = .returned (.tuple #[.int .i64 a, .int .i64 r]) ∧ ∃ Os', Hid (Both w0 w1 s m S' S Os' Od)) ∧
    ∀ W Os', Both w0 W s m S' S Os' Od → Calls Try.prog 14 #[.pointer (some ⟨m, 0, none⟩), .int .i64 n] W fun e w1 => e = .returned (.agg #[.int .i64 a, .int .i64 r]) ∧ ∃ Od', Hid (Both w0 w1 s m S' S' Os' Od') := by
  obtain ⟨S', a, r, hz, h1, h2, h3, h4⟩ := alloc_keeps HB.pro.wf n
  refine ⟨S', a, r, h1, h2, h3, h4, fun W hu => ?_, fun W Os' HB' => ?_⟩
  · have hc := spo_alloc s S n W (HB.upd0 hu).pro
    rw [hz] at hc
    exact hc.mono fun e w1 ⟨he, O', hO, hk⟩ => ⟨he, O', Lib.hid ((HB.upd0 hu).stepS hO hk)⟩
  · have hc := doc_alloc m S n W HB'.doc
    rw [hz] at hc
    exact hc.mono fun e w1 ⟨he, O', hO, hk⟩ => ⟨he, O', Lib.hid (HB'.stepD hO hk)⟩
theorem both_store (HB : Both w0 w s m S S Os Od) (a : Nat) (x : Int) (ha : a < S.W.length) : ∃ pa, w.cell? ⟨s, 0, none⟩ = some (.pointer (some ⟨pa, 0, none⟩)) ∧ ∃ S', S'.pg.length = S.pg.length ∧
    (∀ W, Upd [] w W → Calls Try.prog 15 #[.pointer (some ⟨pa, 0, none⟩), .int .i64 (a : Int), .int .i64 x] W fun e w1 => e = .returned (.int .i64 0) ∧ ∃ Os', Hid (Both w0 w1 s m S' S Os' Od)) ∧
    ∀ W Os', Both w0 W s m S' S Os' Od → ∃ gw y, W.cell? ⟨m, 0, none⟩ = some (.slice (some ⟨gw, 0, none⟩) S.W.length S.W.length) ∧ W.cell? ⟨gw, a, none⟩ = some (.int .i64 y) ∧ W.frozen? ⟨gw, a, none⟩ = false ∧
      ∀ W', Upd [] W W' → Hid (Both w0 (W'.setCell ⟨gw, a, none⟩ (.int .i64 x)) s m S' S' Os' Od) := by
  obtain ⟨pa, h1, _, h2⟩ := HB.pro.arena
  refine ⟨pa, h1, ⟨S.W.set a x, S.pg⟩, rfl, fun W hu => ?_, fun W Os' HB' => ?_⟩
  · have hc := h2 W (a : Int) x hu (by omega) (by omega)
    rw [Int.toNat_natCast] at hc
    exact hc.mono fun e w1 ⟨he, O', hO, hk⟩ => ⟨he, O', Lib.hid ((HB.upd0 hu).stepS hO hk)⟩
  · obtain ⟨D, hD, rfl⟩ := HB'.doc
    have hc := hD.cells.1
    rw [← hD.wf.len] at hc
    refine ⟨D.gw, _, hc, (hD.wordAt ha).1, (hD.wordAt ha).2, fun W' hu => ?_⟩
    obtain ⟨gw, g1, g2, g3, g4, g5⟩ := (HB'.upd0 hu).doc.word ha x
    have e : gw = D.gw := by
      have hc' := (hD.upd0 hu).cells.1
      rw [hc'] at g1
      injection g1 with g1; injection g1 with g1 _ _; injection g1 with g1; injection g1 with g1 _ _
      exact g1.symm
    rw [e] at g4 g5
    exact Lib.hid ((HB'.upd0 hu).stepD g4 g5)
end
end Go.Proofs.Ytpkbdmieelgdlaa
