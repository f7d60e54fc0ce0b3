/- The rules of a view, in plain Lean. No program in sight. -/
import Derived.Test.YtnhgmmjlhhgdoaaView
import Derived.Test.YtnhgmmjlhhgdoaaHeads
namespace Go.Proofs.Ytnhgmmjlhhgdoaa
open Go Go.RowKit

/-- Is it an object's address? -/
def IsObj (os : List Ob) (a : Int) : Prop := ∃ o ∈ os, o.adr = a
def Known (os : List Ob) (a : Int) : Prop := a = 0 ∨ IsObj os a
/-- What the first rule asks of the object at a place. -/
def Ok1 (os : List Ob) (i : Nat) : Prop := 64 ≤ (os.getD i ob0).adr ∧ (0 < i → (os.getD (i - 1) ob0).adr < (os.getD i ob0).adr) ∧ mayB (os.getD i ob0).kind (os.getD i ob0).cls (os.getD i ob0).len (os.getD i ob0).fin = true ∧ ((os.getD i ob0).ws.length : Int) = (os.getD i ob0).len
def R1 (os : List Ob) : Prop := ∀ i, i < os.length → Ok1 os i
def Ok2 (os : List Ob) (i : Nat) : Prop := 0 < i → blockZ ((os.getD (i - 1) ob0).len + 1) ≤ (os.getD i ob0).adr - (os.getD (i - 1) ob0).adr
def sumB : List Ob → Int
  | [] => 0
  | o :: t => blockZ (o.len + 1) + sumB t
def R2 (os : List Ob) (used : Int) : Prop := (∀ i, i < os.length → Ok2 os i) ∧ sumB os = used
def R3 (os : List Ob) (rs : List Int) (hs : List (Int × Int)) : Prop := rs.length = 16 ∧ (∀ i, i < rs.length → Known os (rs.getD i 0)) ∧ ∀ i, i < hs.length → IsObj os (hs.getD i (0, 0)).2
def Ok4 (os : List Ob) (o : Ob) : Prop := (o.kind = 2 → ∀ k, k < o.ws.length → Known os (o.ws.getD k 0)) ∧ (o.kind = 4 → Known os (o.ws.getD 0 0) ∧ Known os (o.ws.getD 2 0))
def R4 (os : List Ob) : Prop := ∀ i, i < os.length → Ok4 os (os.getD i ob0)
/-- What the fifth rule asks of the number at a place of a row; came: those ahead of it, of all rows. -/
def Ok5 (os : List Ob) (came : List Int) (a next : Int) : Prop := (∃ o ∈ os, o.adr = a ∧ o.kind = 4 ∧ o.ws.getD 1 0 = -1 ∧ o.ws.getD 0 0 = 0 ∧ o.ws.getD 2 0 = next) ∧ a ∉ came
def came5 (qs : List (List Int)) (i k : Nat) : List Int := (qs.take i).flatten ++ (qs.getD i []).take k
def R5 (os : List Ob) (qs : List (List Int)) : Prop := ∀ i, i < qs.length → ∀ k, k < (qs.getD i []).length → Ok5 os (came5 qs i k) ((qs.getD i []).getD k 0) ((qs.getD i []).getD (k + 1) 0)
def Ok6 (os : List Ob) (came : List Int) (a : Int) : Prop := (∃ o ∈ os, o.adr = a ∧ o.fin = true) ∧ a ∉ came
def R6 (os : List Ob) (all : List Int) : Prop := ∀ i, i < all.length → Ok6 os (all.take i) (all.getD i 0)
/-- The serials of the references. -/
def serials (os : List Ob) : List Int := (os.filter fun o => o.kind = 4).map fun o => o.ws.getD 4 0
def Ok7 (o : Ob) (came : List Int) (serial clock : Int) : Prop := o.kind = 4 → 1 ≤ o.ws.getD 4 0 ∧ o.ws.getD 4 0 ≤ serial ∧ o.ws.getD 4 0 ∉ came ∧ 0 ≤ o.ws.getD 3 0 ∧ o.ws.getD 3 0 ≤ clock
def R7 (os : List Ob) (clock serial runs : Int) : Prop := (0 ≤ clock ∧ 0 ≤ serial ∧ 0 ≤ runs) ∧ ∀ i, i < os.length → Ok7 (os.getD i ob0) (serials (os.take i)) serial clock
/-- Which is the first rule that is broken; 0: none is. -/
def CheckIs (v : Vw) (k : Int) : Prop :=
  (k = 1 ∧ ¬ R1 v.os) ∨ (k = 2 ∧ R1 v.os ∧ ¬ R2 v.os v.used) ∨ (k = 3 ∧ R1 v.os ∧ R2 v.os v.used ∧ ¬ R3 v.os v.rs v.hs) ∨ (k = 4 ∧ R1 v.os ∧ R2 v.os v.used ∧ R3 v.os v.rs v.hs ∧ ¬ R4 v.os) ∨
  (k = 5 ∧ R1 v.os ∧ R2 v.os v.used ∧ R3 v.os v.rs v.hs ∧ R4 v.os ∧ ¬ R5 v.os v.qs) ∨ (k = 6 ∧ R1 v.os ∧ R2 v.os v.used ∧ R3 v.os v.rs v.hs ∧ R4 v.os ∧ R5 v.os v.qs ∧ ¬ R6 v.os (v.fs ++ v.ps)) ∨
  (k = 7 ∧ R1 v.os ∧ R2 v.os v.used ∧ R3 v.os v.rs v.hs ∧ R4 v.os ∧ R5 v.os v.qs ∧ R6 v.os (v.fs ++ v.ps) ∧ ¬ R7 v.os v.clock v.serial v.runs) ∨
  (k = 0 ∧ R1 v.os ∧ R2 v.os v.used ∧ R3 v.os v.rs v.hs ∧ R4 v.os ∧ R5 v.os v.qs ∧ R6 v.os (v.fs ++ v.ps) ∧ R7 v.os v.clock v.serial v.runs)
theorem CheckIs.unique {v : Vw} {k j : Int} (h : CheckIs v k) (g : CheckIs v j) : k = j := by
  unfold CheckIs at h g
  rcases h with h | h | h | h | h | h | h | h <;> rcases g with g | g | g | g | g | g | g | g <;> first | (obtain ⟨rfl, _⟩ := h; obtain ⟨rfl, _⟩ := g; rfl) | (exfalso; simp_all)

/-- The addresses rise: each object is the only one at its address. -/
theorem R1.rise {os : List Ob} (h : R1 os) : ∀ j i, i < j → j < os.length → (os.getD i ob0).adr < (os.getD j ob0).adr
  | 0, i, hi, _ => by omega
  | j + 1, i, hi, hj => by
    have h1 := (h (j + 1) hj).2.1 (by omega)
    rw [Nat.add_sub_cancel] at h1
    rcases Nat.lt_or_eq_of_le (Nat.le_of_lt_succ hi) with h2 | rfl
    · exact Int.lt_trans (R1.rise h j i h2 (by omega)) h1
    · exact h1
theorem R1.one {os : List Ob} (h : R1 os) {i j : Nat} (hi : i < os.length) (hj : j < os.length) (e : (os.getD i ob0).adr = (os.getD j ob0).adr) : i = j := by
  rcases Nat.lt_trichotomy i j with h1 | h1 | h1
  · have := h.rise j i h1 hj; omega
  · exact h1
  · have := h.rise i j h1 hi; omega
theorem R1.pos {os : List Ob} (h : R1 os) {a : Int} (ha : IsObj os a) : 64 ≤ a := by
  obtain ⟨o, ho, rfl⟩ := ha
  obtain ⟨i, hi, rfl⟩ := List.mem_iff_getElem.1 ho
  have := (h i hi).1
  rwa [getD_of hi] at this
theorem isObj_find {os : List Ob} {a : Int} : IsObj os a ↔ 0 ≤ findZ os a := by
  unfold IsObj findZ
  split
  · rename_i h
    exact ⟨fun _ => by omega, fun _ => h⟩
  · rename_i h
    exact ⟨fun h1 => absurd h1 h, fun h1 => by omega⟩
/-- The object at an address, by its place. -/
theorem find_at {os : List Ob} {a : Int} (h : IsObj os a) : ∃ j : Nat, findZ os a = j ∧ j < os.length ∧ (os.getD j ob0).adr = a := by
  have hex : ∃ o ∈ os, o.adr = a := h
  refine ⟨os.findIdx (fun o => decide (o.adr = a)), by unfold findZ; rw [if_pos hex], ?_, ?_⟩
  · obtain ⟨o, ho, e⟩ := h
    exact List.findIdx_lt_length.2 ⟨o, ho, by simpa using e⟩
  · obtain ⟨o, ho, e⟩ := h
    have hl : os.findIdx (fun o => decide (o.adr = a)) < os.length := List.findIdx_lt_length.2 ⟨o, ho, by simpa using e⟩
    rw [getD_of hl]
    have := List.findIdx_getElem (w := hl)
    simpa using this
theorem sumB_append (a b : List Ob) : sumB (a ++ b) = sumB a + sumB b := by
  induction a with
  | nil => simp [sumB]
  | cons o t ih => simp only [List.cons_append, sumB, ih]; omega
theorem take_ob {os : List Ob} {j : Nat} (hj : j < os.length) : os.take (j + 1) = os.take j ++ [os.getD j ob0] := by
  rw [List.take_succ_eq_append_getElem hj, getD_of hj]
theorem sumB_step {os : List Ob} {j : Nat} (hj : j < os.length) : sumB (os.take (j + 1)) = sumB (os.take j) + blockZ ((os.getD j ob0).len + 1) := by
  rw [take_ob hj, sumB_append]; simp [sumB]
theorem serials_step {os : List Ob} {j : Nat} (hj : j < os.length) : serials (os.take (j + 1)) = if (os.getD j ob0).kind = 4 then serials (os.take j) ++ [(os.getD j ob0).ws.getD 4 0] else serials (os.take j) := by
  rw [take_ob hj]
  unfold serials
  rw [List.filter_append, List.map_append]
  by_cases h : (os.getD j ob0).kind = 4
  · rw [if_pos h, List.filter_cons_of_pos (by simpa using h)]; rfl
  · rw [if_neg h, List.filter_cons_of_neg (by simpa using h)]; simp
/-- The map of all objects, by their addresses: those of the first k places. -/
def mapK (os : List Ob) : Nat → Int → Option Value
  | 0 => fun _ => none
  | k + 1 => fun y => if y = (os.getD k ob0).adr then some (os.getD k ob0).val else mapK os k y
theorem mapK_none {os : List Ob} {y : Int} : ∀ k, (∀ j, j < k → (os.getD j ob0).adr ≠ y) → mapK os k y = none
  | 0, _ => rfl
  | k + 1, h => by
    show (if y = _ then _ else _) = _
    rw [if_neg fun e => h k (by omega) e.symm]
    exact mapK_none k fun j hj => h j (by omega)
theorem mapK_some {os : List Ob} (h1 : R1 os) {j : Nat} : ∀ k, j < k → k ≤ os.length → mapK os k (os.getD j ob0).adr = some (os.getD j ob0).val
  | 0, hj, _ => by omega
  | k + 1, hj, hk => by
    show (if _ = _ then _ else _) = _
    by_cases e : j = k
    · subst e; rw [if_pos rfl]
    · rw [if_neg fun e2 => e (h1.one (by omega) (by omega) e2)]
      exact mapK_some h1 k (by omega) (by omega)
end Go.Proofs.Ytnhgmmjlhhgdoaa
