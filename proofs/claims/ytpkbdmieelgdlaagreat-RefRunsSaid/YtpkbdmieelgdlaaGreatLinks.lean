/- Rows of references, each of which leads to the next one. No program in sight. -/
import Derived.Test.YtpkbdmieelgdlaaGreatHp
namespace Go.Proofs.YtpkbdmieelgdlaaGreat
open Go Go.RowKit

/-- A field is put. -/
def putF (F : Int → Ob) (a : Int) (i : Nat) (x : Int) : Int → Ob := fset F a { F a with ws := (F a).ws.set i x }
/-- The field that leads to the next one is put. -/
def nextF (F : Int → Ob) (a x : Int) : Int → Ob := putF F a 2 x
section
variable (F : Int → Ob) (a x b : Int) (j : Nat)
theorem putF_k : (putF F a j x b).k = (F b).k := by unfold putF fset; split <;> simp_all
theorem putF_c : (putF F a j x b).c = (F b).c := by unfold putF fset; split <;> simp_all
theorem putF_f : (putF F a j x b).f = (F b).f := by unfold putF fset; split <;> simp_all
theorem putF_len : (putF F a j x b).ws.length = (F b).ws.length := by unfold putF fset; split <;> simp_all
theorem putF_get (i : Nat) : (putF F a j x b).ws.getD i 0 = if b = a ∧ j = i ∧ i < (F a).ws.length then x else (F b).ws.getD i 0 := by
  unfold putF fset
  by_cases h : b = a
  · subst h
    simp only [if_true, true_and]
    rw [getD_setW]
  · rw [if_neg h, if_neg (fun e => h e.1)]
theorem nextF_k : (nextF F a x b).k = (F b).k := putF_k ..
theorem nextF_c : (nextF F a x b).c = (F b).c := putF_c ..
theorem nextF_f : (nextF F a x b).f = (F b).f := putF_f ..
theorem nextF_len : (nextF F a x b).ws.length = (F b).ws.length := putF_len ..
theorem nextF_get (i : Nat) : (nextF F a x b).ws.getD i 0 = if b = a ∧ 2 = i ∧ i < (F a).ws.length then x else (F b).ws.getD i 0 := putF_get ..
end

/-- The rows of references. -/
structure Linked (l : List Int) (F : Int → Ob) (rows : List (List Int)) : Prop where
  ref : ∀ j, ∀ a ∈ rows.getD j [], a ∈ l ∧ a ≠ 0 ∧ (F a).k = 4 ∧ (F a).ws.length = 5
  link : ∀ j i, i < (rows.getD j []).length → (F ((rows.getD j []).getD i 0)).ws.getD 2 0 = (rows.getD j []).getD (i + 1) 0
  nodup : ∀ j, (rows.getD j []).Nodup
  apart : ∀ i j x, x ∈ rows.getD i [] → x ∈ rows.getD j [] → i = j
def pushF (F : Int → Ob) (r : List Int) (a : Int) : Int → Ob := if r = [] then nextF F a 0 else nextF (nextF F a 0) (r.getLastD 0) a

theorem rows_set (rows : List (List Int)) (j i : Nat) (r : List Int) (hj : j < rows.length) : (rows.set j r).getD i [] = if i = j then r else rows.getD i [] := by
  rw [List.getD_eq_getElem?_getD, List.getD_eq_getElem?_getD, List.getElem?_set]
  by_cases h : j = i
  · subst h; rw [if_pos rfl, if_pos rfl, if_pos hj]; rfl
  · rw [if_neg h, if_neg (Ne.symm h)]
theorem getD_mem {r : List Int} {i : Nat} (hi : i < r.length) : r.getD i 0 ∈ r := by
  rw [List.getD_eq_getElem?_getD, List.getElem?_eq_getElem hi]; exact List.getElem_mem hi
theorem getD_snoc (r : List Int) (a : Int) (i : Nat) : (r ++ [a]).getD i 0 = if i < r.length then r.getD i 0 else if i = r.length then a else 0 := by
  rw [List.getD_eq_getElem?_getD, List.getD_eq_getElem?_getD]
  by_cases h : i < r.length
  · rw [if_pos h, List.getElem?_append_left h]
  · rw [if_neg h, List.getElem?_append_right (by omega)]
    by_cases h2 : i = r.length
    · rw [if_pos h2, h2]; simp
    · rw [if_neg h2, List.getElem?_eq_none (by simp; omega)]; rfl
theorem lastD_get {r : List Int} (_ : r ≠ []) : r.getLastD 0 = r.getD (r.length - 1) 0 := by
  rw [List.getLastD_eq_getLast?, List.getD_eq_getElem?_getD, List.getLast?_eq_getElem?]
theorem nodup_inj {r : List Int} (h : r.Nodup) {i j : Nat} (hi : i < r.length) (hj : j < r.length) (e : r.getD i 0 = r.getD j 0) : i = j := by
  rw [List.getD_eq_getElem?_getD, List.getD_eq_getElem?_getD, List.getElem?_eq_getElem hi, List.getElem?_eq_getElem hj] at e
  have hp := List.pairwise_iff_getElem.1 h
  simp only [Option.getD_some] at e
  rcases Nat.lt_trichotomy i j with hlt | heq | hlt
  · exact absurd e (hp i j hi hj hlt)
  · exact heq
  · exact absurd e.symm (hp j i hj hi hlt)

section
variable {l : List Int} {F F' : Int → Ob} {rows : List (List Int)} {a : Int} {j : Nat}
theorem Linked.nil (l : List Int) (F : Int → Ob) : Linked l F [] := ⟨by simp, by simp, by simp, by simp⟩
theorem Linked.open (h : Linked l F rows) : Linked l F (rows ++ [[]]) := by
  have e : ∀ i, (rows ++ [[]]).getD i [] = rows.getD i [] := fun i => by
    rw [List.getD_eq_getElem?_getD, List.getD_eq_getElem?_getD]
    by_cases hi : i < rows.length
    · rw [List.getElem?_append_left hi]
    · rw [List.getElem?_append_right (by omega), List.getElem?_eq_none (l := rows) (by omega)]
      rcases i - rows.length with _ | k <;> simp
  exact ⟨fun j => by rw [e]; exact h.ref j, fun j => by rw [e]; exact h.link j, fun j => by rw [e]; exact h.nodup j, fun i j x => by rw [e, e]; exact h.apart i j x⟩
/-- What leaves kinds, lengths and leads as they are leaves the rows. -/
theorem Linked.congr (h : Linked l F rows) {l' : List Int} (hl : ∀ a ∈ l, a ∈ l') (hF : ∀ a ∈ l, (F' a).k = (F a).k ∧ (F' a).ws.length = (F a).ws.length ∧ (F' a).ws.getD 2 0 = (F a).ws.getD 2 0) : Linked l' F' rows :=
  ⟨fun j a ha => by
    obtain ⟨h1, h2, h3, h4⟩ := h.ref j a ha
    have := hF a h1
    exact ⟨hl a h1, h2, this.1.trans h3, this.2.1.trans h4⟩, fun j i hi => (hF _ (h.ref j _ (getD_mem hi)).1).2.2.trans (h.link j i hi), h.nodup, h.apart⟩
theorem Linked.push (h : Linked l F rows) (hj : j < rows.length) (ha : a ∈ l) (h0 : a ≠ 0) (hk : (F a).k = 4) (hw : (F a).ws.length = 5) (hn : ∀ i, a ∉ rows.getD i []) :
    Linked l (pushF F (rows.getD j []) a) (rows.set j (rows.getD j [] ++ [a])) := by
  have hk' : ∀ b, (pushF F (rows.getD j []) a b).k = (F b).k := fun b => by unfold pushF; split <;> simp only [nextF_k]
  have hw' : ∀ b, (pushF F (rows.getD j []) a b).ws.length = (F b).ws.length := fun b => by unfold pushF; split <;> simp only [nextF_len]
  have hl : ∀ b, (F b).ws.length = 5 → (pushF F (rows.getD j []) a b).ws.getD 2 0 = if rows.getD j [] ≠ [] ∧ b = (rows.getD j []).getLastD 0 then a else if b = a then 0 else (F b).ws.getD 2 0 := fun b hb => by
    unfold pushF
    by_cases e : rows.getD j [] = []
    · rw [if_pos e, if_neg (fun c => c.1 e), nextF_get]
      by_cases e2 : b = a
      · rw [if_pos ⟨e2, rfl, by omega⟩, if_pos e2]
      · rw [if_neg (fun c => e2 c.1), if_neg e2]
    · rw [if_neg e, nextF_get, nextF_len]
      by_cases e2 : b = (rows.getD j []).getLastD 0
      · rw [if_pos ⟨e2, rfl, by rw [← e2]; omega⟩, if_pos ⟨e, e2⟩]
      · rw [if_neg (fun c => e2 c.1), if_neg (fun c => e2 c.2), nextF_get]
        by_cases e3 : b = a
        · rw [if_pos ⟨e3, rfl, by omega⟩, if_pos e3]
        · rw [if_neg (fun c => e3 c.1), if_neg e3]
  refine ⟨fun i b hb => ?_, fun i k hi => ?_, fun i => ?_, fun i k x hx hy => ?_⟩
  · rw [hk', hw']
    rw [rows_set _ _ _ _ hj] at hb
    split at hb
    · rcases List.mem_append.1 hb with hb | hb
      · exact h.ref j b hb
      · rw [List.mem_singleton.1 hb]; exact ⟨ha, h0, hk, hw⟩
    · exact h.ref i b hb
  · rw [rows_set _ _ _ _ hj] at hi ⊢
    by_cases e : i = j
    · subst e
      rw [if_pos rfl] at hi ⊢
      rw [List.length_append] at hi
      simp only [List.length_cons, List.length_nil] at hi
      by_cases hk2 : k < (rows.getD i []).length
      · have hm := getD_mem hk2
        have hr := h.ref i _ hm
        have hne : rows.getD i [] ≠ [] := fun e => by rw [e] at hk2; simp at hk2
        rw [getD_snoc, if_pos hk2, hl _ hr.2.2.2, lastD_get hne]
        by_cases hlast : k + 1 = (rows.getD i []).length
        · have e1 : k = (rows.getD i []).length - 1 := by omega
          rw [if_pos ⟨hne, by rw [e1]⟩, getD_snoc, if_neg (by omega), if_pos hlast]
        · rw [if_neg (fun c => hlast (by have := nodup_inj (h.nodup i) hk2 (by omega) c.2; omega)), if_neg (fun c => hn i (by rw [← c]; exact hm)), h.link i k hk2, getD_snoc, if_pos (by omega)]
      · have e1 : k = (rows.getD i []).length := by omega
        rw [getD_snoc, if_neg hk2, if_pos e1, hl _ hw, if_neg (fun c => ?_), if_pos rfl, getD_snoc, if_neg (by omega), if_neg (by omega)]
        have := c.2
        rw [lastD_get c.1] at this
        refine hn i (this ▸ getD_mem ?_)
        have := List.length_pos_iff.2 c.1
        omega
    · rw [if_neg e] at hi ⊢
      have hm := getD_mem hi
      have hr := h.ref i _ hm
      rw [hl _ hr.2.2.2, if_neg (fun c => e ?_), if_neg (fun c => hn i (by rw [← c]; exact hm)), h.link i k hi]
      refine h.apart i j _ hm ?_
      rw [c.2, lastD_get c.1]
      have := List.length_pos_iff.2 c.1
      exact getD_mem (by omega)
  · rw [rows_set _ _ _ _ hj]
    split
    · rw [List.nodup_append]
      refine ⟨h.nodup j, by simp, fun x hx y hy => ?_⟩
      rintro rfl
      rw [List.mem_singleton.1 hy] at hx
      exact hn j hx
    · exact h.nodup i
  · rw [rows_set _ _ _ _ hj] at hx hy
    split at hx
    · split at hy
      · omega
      · rename_i e1 e2
        rcases List.mem_append.1 hx with hx | hx
        · have := h.apart j k x hx hy; omega
        · rw [List.mem_singleton.1 hx] at hy; exact absurd hy (hn k)
    · split at hy
      · rename_i e1 e2
        rcases List.mem_append.1 hy with hy | hy
        · have := h.apart i j x hx hy; omega
        · rw [List.mem_singleton.1 hy] at hx; exact absurd hx (hn i)
      · exact h.apart i k x hx hy
theorem Linked.poll (h : Linked l F rows) (hj : j < rows.length) {t : List Int} (hr : rows.getD j [] = a :: t) : Linked l (nextF F a 0) (rows.set j t) := by
  have hnd := h.nodup j
  rw [hr] at hnd
  obtain ⟨hat, hnt⟩ := List.nodup_cons.1 hnd
  have hmem : a ∈ rows.getD j [] := by rw [hr]; simp
  have htm : ∀ x ∈ t, x ∈ rows.getD j [] := fun x hx => by rw [hr]; simp [hx]
  have hlk : ∀ b, b ≠ a → (nextF F a 0 b).ws.getD 2 0 = (F b).ws.getD 2 0 := fun b hb => by rw [nextF_get, if_neg (fun c => hb c.1)]
  refine ⟨fun i b hb => ?_, fun i k hi => ?_, fun i => ?_, fun i k x hx hy => ?_⟩
  · rw [nextF_k, nextF_len]
    rw [rows_set _ _ _ _ hj] at hb
    split at hb
    · exact h.ref j b (htm b hb)
    · exact h.ref i b hb
  · rw [rows_set _ _ _ _ hj] at hi ⊢
    by_cases e : i = j
    · subst e
      rw [if_pos rfl] at hi ⊢
      have hm := getD_mem hi
      rw [hlk _ (fun e => hat (e ▸ hm))]
      have := h.link i (k + 1) (by rw [hr]; simp; omega)
      rw [hr] at this
      simpa using this
    · rw [if_neg e] at hi ⊢
      have hm := getD_mem hi
      rw [hlk _ (fun c => e (h.apart i j a (c ▸ hm) hmem)), h.link i k hi]
  · rw [rows_set _ _ _ _ hj]
    split
    · exact hnt
    · exact h.nodup i
  · rw [rows_set _ _ _ _ hj] at hx hy
    split at hx
    · split at hy
      · omega
      · have := h.apart j k x (htm x hx) hy; omega
    · split at hy
      · have := h.apart i j x hx (htm x hy); omega
      · exact h.apart i k x hx hy
end
theorem kref_may (c : Int) (h1 : 1 ≤ c) (h2 : c ≤ 3) : mayB 4 c 5 false = true := by
  have : c = 1 ∨ c = 2 ∨ c = 3 := by omega
  rcases this with rfl | rfl | rfl <;> decide
theorem rep_rows (K j : Nat) : (List.replicate K ([] : List Int)).getD j [] = [] := by
  rw [List.getD_eq_getElem?_getD, List.getElem?_replicate]; split <;> rfl
end Go.Proofs.YtpkbdmieelgdlaaGreat
