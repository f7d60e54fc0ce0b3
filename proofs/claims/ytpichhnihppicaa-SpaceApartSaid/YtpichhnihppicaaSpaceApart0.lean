/- A space of the call's own beside two slices of numbers of its own; what a list of blocks says of a space. -/
import Derived.Test.YtpichhnihppicaaSpaceLarge
import Derived.Test.YtpichhnihppicaaOwn2
namespace Go.Proofs.Ytpichhnihppicaa
open Go Go.RowKit

/-- A space and two slices, none of which shares a block with another. -/
def Beside (a0 w : World) (s : Nat) (L : Lay) (S : Sp) (v1 : Value) (xs : List Int) (v2 : Value) (ys : List Int) : Prop :=
  MineL a0 w s L S ∧ Own w a0.heap.size v1 xs ∧ Own w a0.heap.size v2 ys ∧ Apart v1 v2 ∧ ∀ k, v1.ownBlock = some k ∨ v2.ownBlock = some k → ¬ Owns s L S k
def BesideE (a0 w : World) (s : Nat) (S : Sp) (v1 : Value) (xs : List Int) (v2 : Value) (ys : List Int) : Prop := ∃ L, Beside a0 w s L S v1 xs v2 ys
section
variable {a0 w w' : World} {s : Nat} {L : Lay} {S S' : Sp} {v1 v2 : Value} {xs ys : List Int}
theorem Beside.after (h : Beside a0 w s L S v1 xs v2 ys) (ha : After s L S S' w w') : BesideE a0 w' s S' v1 xs v2 ys := by
  obtain ⟨hm, o1, o2, hap, hno⟩ := h
  obtain ⟨L', k1, k2, k3, k4⟩ := ha
  have hz := hm.2.2.size
  refine ⟨L', ⟨k1, fun k hk => ?_, hm.2.2.step k2 (fun i hi => .inr (hm.2.1 i (foot_owns hi)))⟩, o1.updN k2 (fun k hk hf => hno k (.inl hk) (foot_owns hf)), o2.updN k2 (fun k hk hf => hno k (.inr hk) (foot_owns hf)), hap, fun k hk ho => ?_⟩
  · rcases k4 k hk with h | h
    · exact hm.2.1 k h
    · omega
  · rcases k4 k ho with h | h
    · exact hno k hk h
    · rcases hk with hk | hk
      · have := (o1.block hk).2; omega
      · have := (o2.block hk).2; omega
theorem Beside.upd (h : Beside a0 w s L S v1 xs v2 ys) (hu : Upd [] w w') : Beside a0 w' s L S v1 xs v2 ys :=
  ⟨h.1.upd hu, h.2.1.updN hu (by simp), h.2.2.1.updN hu (by simp), h.2.2.2.1, h.2.2.2.2⟩
theorem BesideE.upd (h : BesideE a0 w s S v1 xs v2 ys) (hu : Upd [] w w') : BesideE a0 w' s S v1 xs v2 ys := by obtain ⟨L, h⟩ := h; exact ⟨L, h.upd hu⟩
theorem BesideE.mine (h : BesideE a0 w s S v1 xs v2 ys) : Mine a0 w s S := by obtain ⟨L, h⟩ := h; exact ⟨L, h.1⟩
theorem BesideE.world (h : BesideE a0 w s S v1 xs v2 ys) : Upd [] a0 w := h.mine.world
theorem BesideE.wf (h : BesideE a0 w s S v1 xs v2 ys) : S.WF := h.mine.wf
theorem BesideE.own1 (h : BesideE a0 w s S v1 xs v2 ys) : Own w a0.heap.size v1 xs := by obtain ⟨L, h⟩ := h; exact h.2.1
theorem BesideE.own2 (h : BesideE a0 w s S v1 xs v2 ys) : Own w a0.heap.size v2 ys := by obtain ⟨L, h⟩ := h; exact h.2.2.1
theorem BesideE.flip (h : BesideE a0 w s S v1 xs v2 ys) : BesideE a0 w s S v2 ys v1 xs := by
  obtain ⟨L, h1, h2, h3, h4, h5⟩ := h
  exact ⟨L, h1, h3, h2, h4.symm, fun k hk => h5 k hk.symm⟩
/-- Behind an append to the first slice. -/
theorem Beside.push {v' : Value} {zs : List Int} (h : Beside a0 w s L S v1 xs v2 ys) (ho : Own w' a0.heap.size v' zs) (hb : ∀ k, v'.ownBlock = some k → v1.ownBlock = some k ∨ w.heap.size ≤ k) (hu : Upd v1.ownBlock.toList w w') : BesideE a0 w' s S v' zs v2 ys := by
  obtain ⟨hm, o1, o2, hap, hno⟩ := h
  have hE : ∀ k ∈ v1.ownBlock.toList, v1.ownBlock = some k := fun k hk => Option.mem_toList.1 hk
  refine ⟨L, ⟨hm.1.upd hu (fun k hk hk2 => hno k (.inl (hE k hk2)) hk), hm.2.1, hm.2.2.step hu (fun i hi => .inr ((o1.block (hE i hi)).1))⟩, ho, o2.updN hu (fun k hk hk2 => hap k (hE k hk2) hk), fun k hk hk2 => ?_, fun k hk hk2 => ?_⟩
  · rcases hb k hk with h | h
    · exact hap k h hk2
    · have := (o2.block hk2).2; omega
  · rcases hk with hk | hk
    · rcases hb k hk with h | h
      · exact hno k (.inl h) hk2
      · have := hm.1.owned hk2; omega
    · exact hno k (.inr hk) hk2
end
theorem BesideE.push {a0 w w' : World} {s : Nat} {S : Sp} {v1 v2 v' : Value} {xs ys zs : List Int} (h : BesideE a0 w s S v1 xs v2 ys) (ho : Own w' a0.heap.size v' zs) (hb : ∀ k, v'.ownBlock = some k → v1.ownBlock = some k ∨ w.heap.size ≤ k) (hu : Upd v1.ownBlock.toList w w') : BesideE a0 w' s S v' zs v2 ys := by
  obtain ⟨L, h⟩ := h
  exact h.push ho hb hu
theorem beside_alloc (a0 : World) (s : Nat) (S S' : Sp) (v1 : Value) (xs : List Int) (v2 : Value) (ys : List Int) (n : Int) (x y : Int) (w : World) (h : BesideE a0 w s S v1 xs v2 ys) (hx : S.alloc n = (S', x, y)) :
    Calls Try.prog 13 #[.pointer (some ⟨s, 0, none⟩), .int .i64 n] w fun e w' => e = .returned (.tuple #[.int .i64 x, .int .i64 y]) ∧ BesideE a0 w' s S' v1 xs v2 ys := by
  obtain ⟨L, h⟩ := h
  refine (alloc_calls s L S n w h.1.1).mono fun e w' ⟨he, ha⟩ => ?_
  rw [hx] at he ha
  exact ⟨he, h.after ha⟩
theorem beside_free (a0 : World) (s : Nat) (S S' : Sp) (v1 : Value) (xs : List Int) (v2 : Value) (ys : List Int) (a : Int) (y : Int) (w : World) (h : BesideE a0 w s S v1 xs v2 ys) (hx : S.drop a = (S', y)) :
    Calls Try.prog 16 #[.pointer (some ⟨s, 0, none⟩), .int .i64 a] w fun e w' => e = .returned (.int .i64 y) ∧ BesideE a0 w' s S' v1 xs v2 ys := by
  obtain ⟨L, h⟩ := h
  refine (free_calls s L S a w h.1.1).mono fun e w' ⟨he, ha⟩ => ?_
  rw [hx] at he ha
  exact ⟨he, h.after ha⟩
theorem beside_find (a0 : World) (s : Nat) (S : Sp) (v1 : Value) (xs : List Int) (v2 : Value) (ys : List Int) (a : Int) (x y : Int) (z : Bool) (w : World) (h : BesideE a0 w s S v1 xs v2 ys) (hx : S.find a = (x, y, z)) :
    Calls Try.prog 15 #[.pointer (some ⟨s, 0, none⟩), .int .i64 a] w fun e w' => e = .returned (.tuple #[.int .i64 x, .int .i64 y, .bool z]) ∧ BesideE a0 w' s S v1 xs v2 ys := by
  obtain ⟨L, h⟩ := h
  refine (find_calls s L S a w h.1.1).mono fun e w' ⟨he, ha⟩ => ⟨?_, L, h.upd ha⟩
  rw [he, hx]
  rfl
theorem beside_used (a0 : World) (s : Nat) (S : Sp) (v1 : Value) (xs : List Int) (v2 : Value) (ys : List Int) (x : Int) (w : World) (h : BesideE a0 w s S v1 xs v2 ys) (hx : S.used = x) :
    Calls Try.prog 17 #[.pointer (some ⟨s, 0, none⟩)] w fun e w' => e = .returned (.int .i64 x) ∧ BesideE a0 w' s S v1 xs v2 ys := by
  obtain ⟨L, h⟩ := h
  refine (used_calls s L S w h.1.1).mono fun e w' ⟨he, ha⟩ => ⟨?_, L, h.upd ha⟩
  rw [he, hx]

/-- The blocks of a space are these, by what is found. -/
def Bl (S : Sp) (bs : List (Int × Int)) : Prop := (∀ z m, S.find z = (z, m, true) ↔ (z, m) ∈ bs) ∧ (bs.map (·.1)).Nodup ∧ S.NE
theorem newSp_len (n : Nat) : (newSp n).pg.length = n := by simp [newSp]
theorem Own.ints {w : World} {B n c : Nat} {A : Option Addr} {xs : List Int} (h : Own w B (.slice A n c) xs) : n = xs.length ∧ IsInts w A xs := by
  obtain ⟨A', c', e, hI, _⟩ := h.form
  injection e with e1 e2 e3
  subst e1
  exact ⟨e2, hI⟩
theorem find_form (S : Sp) (z : Int) : S.find z = (0, 0, false) ∨ ∃ a m, S.find z = (a, m, true) := by
  by_cases hout : z < 0 ∨ S.W.length ≤ z
  · exact .inl (find_out hout)
  · rw [find_in (by omega) (by omega)]
    cases atP S.pg (z / 64).toNat <;> simp only [findIn]
    case small c l =>
      split
      · exact .inr ⟨_, _, rfl⟩
      · exact .inl rfl
    case first k => exact .inr ⟨_, _, rfl⟩
    case rest f => exact .inr ⟨_, _, rfl⟩
    all_goals first | exact .inl rfl | exact .inl trivial
theorem Bl.new {n : Nat} (h1 : 1 ≤ n) : Bl (newSp n) [] :=
  ⟨fun z m => by rw [eta_find h1 rfl]; simp, by simp, newSp_ne n h1⟩
theorem Bl.bd {S : Sp} {bs : List (Int × Int)} (h : Bl S bs) (hw : S.WF) {a m : Int} (hm : (a, m) ∈ bs) : 64 ≤ a ∧ a + m ≤ S.W.length ∧ 1 ≤ m := by
  have := find_block hw ((h.1 a m).2 hm)
  omega
/-- A new block is apart from all others. -/
theorem Bl.apart {S S' : Sp} {bs : List (Int × Int)} {a m : Int} (h : Bl S bs) (hw : S.WF) (hm : Made S S' a m) {a' m' : Int} (hb : (a', m') ∈ bs) : a + m ≤ a' ∨ a' + m' ≤ a := by
  have hf := find_block hw ((h.1 a' m').2 hb)
  have hp := hm.pos
  by_cases h1 : a + m ≤ a'
  · exact .inl h1
  · by_cases h2 : a' + m' ≤ a
    · exact .inr h2
    · exfalso
      by_cases h3 : a ≤ a'
      · have := hm.was a' h3 (by omega)
        rw [(h.1 a' m').2 hb] at this; cases this
      · have := hm.was a (by omega) (by omega)
        rw [hf.2.2.2.2 a (by omega) (by omega)] at this; cases this
theorem Bl.made {S S' : Sp} {bs : List (Int × Int)} {a m : Int} (h : Bl S bs) (hw : S.WF) (hm : Made S S' a m) : Bl S' (bs ++ [(a, m)]) := by
  have hp := hm.pos
  refine ⟨fun z k => ?_, ?_, hm.ne h.2.2⟩
  · rw [hm.find, List.mem_append, List.mem_singleton]
    by_cases hz : a ≤ z ∧ z < a + m
    · rw [if_pos hz]
      constructor
      · intro e
        simp only [Prod.mk.injEq, and_true] at e
        right
        rw [Prod.mk.injEq]
        omega
      · rintro (hb | e)
        · have := h.apart hw hm hb
          have := (h.bd hw hb).2.2
          omega
        · rw [Prod.mk.injEq] at e
          simp only [Prod.mk.injEq, and_true]
          omega
    · rw [if_neg hz, h.1]
      constructor
      · exact .inl
      · rintro (hb | e)
        · exact hb
        · rw [Prod.mk.injEq] at e; omega
  · rw [List.map_append, List.nodup_append]
    refine ⟨h.2.1, by simp, fun x hx y hy => ?_⟩
    obtain ⟨⟨a', m'⟩, hb, rfl⟩ := List.mem_map.1 hx
    simp at hy
    subst hy
    have := h.apart hw hm hb
    have := (h.bd hw hb).2.2
    simp only
    omega
theorem Bl.gone {S S' : Sp} {bs cs : List (Int × Int)} {a m : Int} (h : Bl S bs) (hw : S.WF) (hm : (a, m) ∈ bs) (hg : Gone S S' a m) (hcs : ∀ e, e ∈ cs ↔ e ∈ bs ∧ e.1 ≠ a) (hn : (cs.map (·.1)).Nodup) : Bl S' cs := by
  refine ⟨fun z k => ?_, hn, hg.ne h.2.2⟩
  rw [hg.find, hcs]
  have hf := find_block hw ((h.1 a m).2 hm)
  by_cases hz : a ≤ z ∧ z < a + m
  · rw [if_pos hz]
    constructor
    · intro e; cases e
    · rintro ⟨hb, hne⟩
      have h1 := (h.1 z k).2 hb
      rw [hf.2.2.2.2 z hz.1 hz.2] at h1
      simp only [Prod.mk.injEq, and_true] at h1
      exact absurd h1.1.symm hne
  · rw [if_neg hz, h.1]
    exact ⟨fun hb => ⟨hb, fun e => hz (by simp only at e; omega)⟩, fun hb => hb.1⟩
theorem Bl.empty {S : Sp} (h : Bl S []) (hw : S.WF) : S.pg = (newSp S.pg.length).pg :=
  all_free hw h.2.2 fun z => by
    rcases find_form S z with e | ⟨a, m, e⟩
    · rw [e]
    · have := (h.1 a m).1 ((find_block hw e).2.2.2.2 a (by omega) (by have := find_block hw e; omega))
      simp at this
theorem Bl.used {S : Sp} {bs : List (Int × Int)} (h : Bl S bs) (hw : S.WF) : S.used = (bs.map (·.2)).sum := used_eq hw h.2.1 h.1
end Go.Proofs.Ytpichhnihppicaa
