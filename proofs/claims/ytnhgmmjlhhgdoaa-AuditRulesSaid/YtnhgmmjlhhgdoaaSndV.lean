/- The view of layer 23's statements of their own: what it says. -/
import Derived.Test.YtnhgmmjlhhgdoaaSnd
namespace Go.Proofs.Ytnhgmmjlhhgdoaa
open Go Go.RowKit

instance (os : List Ob) (i : Nat) : Decidable (Ok1 os i) := by unfold Ok1; infer_instance
instance (os : List Ob) : Decidable (R1 os) := by unfold R1; infer_instance
instance (os : List Ob) (i : Nat) : Decidable (Ok2 os i) := by unfold Ok2; infer_instance
instance (os : List Ob) (u : Int) : Decidable (R2 os u) := by unfold R2; infer_instance
instance (os : List Ob) (rs : List Int) (hs : List (Int × Int)) : Decidable (R3 os rs hs) := by unfold R3; infer_instance
instance (os : List Ob) (o : Ob) : Decidable (Ok4 os o) := by unfold Ok4; infer_instance
instance (os : List Ob) : Decidable (R4 os) := by unfold R4; infer_instance
instance (os : List Ob) (came : List Int) (a next : Int) : Decidable (Ok5 os came a next) := by unfold Ok5; infer_instance
instance (os : List Ob) (qs : List (List Int)) : Decidable (R5 os qs) := by unfold R5; infer_instance
instance (os : List Ob) (came : List Int) (a : Int) : Decidable (Ok6 os came a) := by unfold Ok6; infer_instance
instance (os : List Ob) (all : List Int) : Decidable (R6 os all) := by unfold R6; infer_instance
instance (o : Ob) (came : List Int) (s c : Int) : Decidable (Ok7 o came s c) := by unfold Ok7; infer_instance
instance (os : List Ob) (c s r : Int) : Decidable (R7 os c s r) := by unfold R7; infer_instance
instance (v : Vw) (k : Int) : Decidable (CheckIs v k) := by unfold CheckIs; infer_instance
/-- What the program asks of a view, as one. -/
structure Good (w : World) (v : Vw) (k : Int) : Prop where
  sees : Sees w v
  light : Light v
  nrs : v.rs.length ≤ 4611686018427387903
  is : CheckIs v k
theorem Good.upd {w w' : World} {v : Vw} {k : Int} (h : Good w v k) (hu : Upd [] w w') : Good w' v k := ⟨h.sees.upd hu (by simp), h.light, h.nrs, h.is⟩
theorem Good.check {w : World} {v : Vw} {k : Int} (h : Good w v k) : Calls Try.prog 16 #[v.val] w fun e w' => e = .returned (.int .i64 k) ∧ Below w.heap.size w w' :=
  check_gives v w k h.sees h.light h.nrs h.is
def lightB (v : Vw) : Bool := decide (v.os.length ≤ 40) && decide (v.hs.length ≤ 40) && decide (v.rs.length ≤ 40) && decide (v.qs.length ≤ 10) && (v.qs.all fun q => decide (q.length ≤ 40)) && decide (v.fs.length ≤ 40) && decide (v.ps.length ≤ 40) && (v.os.all fun o => decide (o.adr ≤ 9223372036854775807))
theorem light_of {v : Vw} (h : lightB v = true) (hf : v.fa ≠ none) (hp : v.pa ≠ none) : Light v ∧ v.rs.length ≤ 4611686018427387903 := by
  unfold lightB at h
  simp only [Bool.and_eq_true, decide_eq_true_eq, List.all_eq_true] at h
  obtain ⟨⟨⟨⟨⟨⟨⟨h1, h2⟩, h3⟩, h4⟩, h5⟩, h6⟩, h7⟩, h8⟩ := h
  exact ⟨⟨h1, h2, h4, h5, h6, h7, h8, fun h => absurd h hf, fun h => absurd h hp⟩, by omega⟩
theorem good_of {w : World} {v : Vw} {k : Int} (hs : Sees w v) (hb : lightB v = true) (hf : v.fa ≠ none) (hp : v.pa ≠ none) (hc : decide (CheckIs v k) = true) : Good w v k :=
  ⟨hs, (light_of hb hf hp).1, (light_of hb hf hp).2, of_decide_eq_true hc⟩
theorem good_S {w : World} {g : Nat} (h : Blks w g (LS0 g)) : Good w (VS g) 0 := by
  refine good_of ⟨obs_of (h 8 _ _ rfl) ?_, helds_of_blk (h 9 _ _ rfl), ints_of_blk (h 1 _ _ rfl), ?_, ints_of_blk (h 12 _ _ rfl), ints_of_blk (h 13 _ _ rfl)⟩ (by kernel_rfl) (by intro h; cases h) (by intro h; cases h) (by kernel_rfl)
  · intro o ho
    simp only [VS, osS, List.mem_cons, List.not_mem_nil, or_false] at ho
    rcases ho with rfl | rfl | rfl | rfl | rfl | rfl
    · exact ints_of_blk (h 2 _ _ rfl)
    · exact ints_of_blk (h 3 _ _ rfl)
    · exact ints_of_blk (h 4 _ _ rfl)
    · exact ints_of_blk (h 5 _ _ rfl)
    · exact ints_of_blk (h 6 _ _ rfl)
    · exact ints_of_blk (h 7 _ _ rfl)
  · refine lists_of_blk (ls := [(some ⟨g + 10, 0, none⟩, 2, [192, 200]), (none, 0, [])]) (h 11 _ _ rfl) ?_
    intro l hl
    simp only [List.mem_cons, List.not_mem_nil, or_false] at hl
    rcases hl with rfl | rfl
    · exact ⟨ints_of_blk (h 10 _ _ rfl), fun h => by cases h⟩
    · exact ⟨.inl rfl, fun _ => ⟨rfl, rfl⟩⟩
end Go.Proofs.Ytnhgmmjlhhgdoaa
