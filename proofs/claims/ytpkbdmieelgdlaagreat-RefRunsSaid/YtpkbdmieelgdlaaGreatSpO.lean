/- The program's space, told by its blocks; two things beside each other. -/
import Derived.Test.YtpkbdmieelgdlaaGreatP2
import Derived.Test.YtpkbdmieelgdlaaGreatStep
namespace Go.Proofs.YtpkbdmieelgdlaaGreat
open Go Go.RowKit

/-- The space at s is S; its blocks are O. -/
def SpO (w : World) (s : Nat) (S : Sp) (O : Nat → Prop) : Prop := ∃ L, IsSpace w s L S ∧ O = Owns s L S
section
variable {w w' : World} {s : Nat} {L : Lay} {S S' : Sp} {O O' O2 : Nat → Prop}
theorem SpO.owned (H : SpO w s S O) {k : Nat} (hk : O k) : k < w.heap.size := by obtain ⟨L, H, rfl⟩ := H; exact H.owned hk
theorem SpO.moved (H : SpO w s S O) (hb : ∀ k, O k → w'.heap[k]? = w.heap[k]?) : SpO w' s S O := by obtain ⟨L, H, rfl⟩ := H; exact ⟨L, H.moved hb, rfl⟩
theorem SpO.upd0 (H : SpO w s S O) (hu : Upd [] w w') : SpO w' s S O := H.moved fun k hk => hu.block k (H.owned hk) (by simp)
theorem SpO.wf (H : SpO w s S O) : S.WF := by obtain ⟨L, H, _⟩ := H; exact H.wf
theorem SpO.after (ha : After s L S S' w w') : ∃ O', SpO w' s S' O' ∧ StepO (Owns s L S) w O' w' := by
  obtain ⟨L', h1, h2, h3, h4⟩ := ha
  exact ⟨_, ⟨L', h1, rfl⟩, h2.os, h2.tape, h2.output, h2.size, fun k hk hn => h2.block k hk fun hm => hn (foot_owns hm), h4⟩
/-- What turns blocks of O alone leaves what lies beside them beside them. -/
theorem apart_step (hd : ∀ k, O2 k → ¬ O k) (h2 : ∀ k, O2 k → k < w.heap.size) (k : StepO O w O' w') : ∀ k, O2 k → ¬ O' k := fun b hb hx => by
  rcases k.own b hx with h1 | h1
  · exact hd b hb h1
  · have := h2 b hb; omega
theorem apart_moved (hd : ∀ k, O2 k → ¬ O k) (h2 : ∀ k, O2 k → k < w.heap.size) (k : StepO O w O' w') : ∀ b, O2 b → w'.heap[b]? = w.heap[b]? := fun b hb => k.block b (h2 b hb) (hd b hb)

theorem spo_new (n : Nat) (w : World) (h1 : 1 ≤ n) (h2 : n ≤ 256) : Calls Tryz.prog 77 #[.int .i64 n] w fun e w' => ∃ s O, e = .returned (.tuple #[.pointer (some ⟨s, 0, none⟩), .int .i64 0]) ∧ SpO w' s (newSp n) O ∧ (∀ k, O k → w.heap.size ≤ k) ∧ Upd [] w w' :=
  (space_new_yes n w h1 h2).mono fun _ _ ⟨s, L, he, hs, ho, hu⟩ => ⟨s, _, he, ⟨L, hs, rfl⟩, ho, hu⟩
theorem spo_alloc (s : Nat) (S : Sp) (n : Int) (w : World) (H : SpO w s S O) :
    Calls Tryz.prog 80 #[.pointer (some ⟨s, 0, none⟩), .int .i64 n] w fun e w' => e = .returned (.tuple #[.int .i64 (S.alloc n).2.1, .int .i64 (S.alloc n).2.2]) ∧ ∃ O', SpO w' s (S.alloc n).1 O' ∧ StepO O w O' w' := by
  obtain ⟨L, H, rfl⟩ := H
  exact (alloc_calls s L S n w H).mono fun e w' ⟨he, ha⟩ => ⟨he, SpO.after ha⟩
theorem spo_find (s : Nat) (S : Sp) (a : Int) (w : World) (H : SpO w s S O) :
    Calls Tryz.prog 93 #[.pointer (some ⟨s, 0, none⟩), .int .i64 a] w fun e w' => e = .returned (.tuple #[.int .i64 (S.find a).1, .int .i64 (S.find a).2.1, .bool (S.find a).2.2]) ∧ Upd [] w w' := by
  obtain ⟨L, H, rfl⟩ := H
  exact find_calls s L S a w H
theorem spo_each (s : Nat) (S : Sp) (w : World) (H : SpO w s S O) :
    Calls Tryz.prog 62 #[.pointer (some ⟨s, 0, none⟩)] w fun e w' => ∃ v, e = .returned v ∧ Own w' w.heap.size v S.each ∧ Upd [] w w' := by
  obtain ⟨L, H, rfl⟩ := H
  exact each_calls s L S w H
/-- The arena of the space. -/
theorem SpO.arena (H : SpO w s S O) : ∃ pa, w.cell? ⟨s, 0, none⟩ = some (.pointer (some ⟨pa, 0, none⟩)) ∧
    (∀ W (i : Int), Upd [] w W → 0 ≤ i → i < S.W.length → Calls Tryz.prog 94 #[.pointer (some ⟨pa, 0, none⟩), .int .i64 i] W fun e w' => e = .returned (.tuple #[.int .i64 (S.W.getD i.toNat 0), .int .i64 0]) ∧ W = w') ∧
    ∀ W (i x : Int), Upd [] w W → 0 ≤ i → i < S.W.length → Calls Tryz.prog 82 #[.pointer (some ⟨pa, 0, none⟩), .int .i64 i, .int .i64 x] W fun e w' => e = .returned (.int .i64 0) ∧ ∃ O', SpO w' s ⟨S.W.set i.toNat x, S.pg⟩ O' ∧ StepO O W O' w' := by
  obtain ⟨L, H, rfl⟩ := H
  refine ⟨L.pa, H.box.cell 0, fun W i hu h0 h1 => load_yes L.pa L.ga S.W i W (H.upd0 hu).arena h0 h1, fun W i x hu h0 h1 => (store_yes L.pa L.ga S.W i x W (H.upd0 hu).arena h0 h1).mono fun e w' ⟨he, ha, hu2⟩ => ⟨he, ?_⟩⟩
  exact SpO.after ((H.upd0 hu).words ha (by simp) hu2)
end
end Go.Proofs.YtpkbdmieelgdlaaGreat
