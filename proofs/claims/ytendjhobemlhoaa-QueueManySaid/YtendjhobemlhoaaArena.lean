/- The contracts of package arena: New, Len, Load, Store, Fill, over a state: the words. -/
import Derived.Test.YtendjhobemlhoaaChecked
import Derived.Test.YtendjhobemlhoaaBase
namespace Go.Proofs.Ytendjhobemlhoaa
open Go Go.RowKit

theorem err_calls (n : Int) (w : World) (h : 0 ≤ n ∧ n ≤ 7) : Calls Try.prog 17 #[.int .i64 n] w fun e w' => e = .returned (.int .i64 n) ∧ w = w' := by
  obtain ⟨h1, h2⟩ := h
  go_enter Try.func17, Try.ntmps17
  go_wp2
  go_ret
  exact ⟨rfl, rfl⟩

/-- An arena at block p, its words at block g. -/
def IsArena (w : World) (p g : Nat) (l : List Int) : Prop := Blk w p 117 #[.slice (some ⟨g, 0, none⟩) l.length l.length] ∧ Blk w g 3 (ints l)
section
variable {w w' : World} {p g : Nat} {l : List Int} {E : List Nat}
theorem IsArena.ne (h : IsArena w p g l) : p ≠ g := h.1.ne_ h.2 (by decide)
theorem IsArena.upd (h : IsArena w p g l) (hu : Upd E w w') (hp : p ∉ E) (hg : g ∉ E) : IsArena w' p g l := ⟨h.1.upd hu hp, h.2.upd hu hg⟩
theorem IsArena.drew (h : IsArena w p g l) : IsArena w.drew p g l := h
end

def NewArena (n : Nat) (w : World) (e : Ending) (w' : World) : Prop := ∃ p g, e = .returned (.tuple #[.pointer (some ⟨p, 0, none⟩), .int .i64 0]) ∧ IsArena w' p g (List.replicate n 0) ∧
  w.heap.size ≤ p ∧ w.heap.size ≤ g ∧ Below w.heap.size w w'

theorem int_info : (Try.prog.info? 3).map (fun i => (i.zero, i.size, i.bytes)) = some (some (.int .i64 0), 1, 8) := by kernel_rfl

theorem arena_new_no (n : Int) (w : World) (h : n < 1 ∨ 256 < n) : Calls Try.prog 75 #[.int .i64 n] w fun e w' => e = .returned (.tuple #[.pointer none, .int .i64 1]) ∧ w = w' := by
  rcases h with h | h
  · go_enter Try.func75, Try.ntmps75
    go_wp2
    go_ret2
    exact ⟨rfl, rfl⟩
  · have h' : ¬ n < 1 := by omega
    go_enter Try.func75, Try.ntmps75
    go_wp2
    go_ret2
    exact ⟨rfl, rfl⟩

theorem arena_new_yes (n : Nat) (w : World) (h1 : 1 ≤ n) (h2 : n ≤ 256) : Calls Try.prog 75 #[.int .i64 n] w (NewArena (n * 64) w) := by
  have hmk := fun W => run_make_all (P := Try.prog) 25 3 (.int .i64 0) 8 Try.underlying25 int_info rfl ((n : Int) * 64) (n * 64) (by omega) (by omega) (by omega) W
  go_enter Try.func75, Try.ntmps75
  go_wp2
  go_ret2
  refine ⟨w.heap.size + 1, w.heap.size, rfl, ⟨?_, ?_⟩, by omega, by omega, (((Below.refl _ _).alloc (Nat.le_refl _) _).alloc (by simp) _)⟩
  · have := Blk.new (w.alloc (.cells (Array.replicate (n * 64) (.int .i64 0)) 3)) 117 #[.slice (some ⟨w.heap.size, 0, none⟩) (n * 64) (n * 64)]
    simpa using this
  · rw [ints_zero]
    exact (Blk.new w _ _).alloc _

theorem arena_len_nil (w : World) : Calls Try.prog 72 #[.pointer none] w fun e w' => e = .returned (.int .i64 0) ∧ w = w' := by
  go_enter Try.func72, Try.ntmps72
  go_wp2
  go_ret
  exact ⟨rfl, rfl⟩
theorem arena_len (p g : Nat) (l : List Int) (w : World) (h : IsArena w p g l) : Calls Try.prog 72 #[.pointer (some ⟨p, 0, none⟩)] w fun e w' => e = .returned (.int .i64 l.length) ∧ w = w' := by
  have h0 := h.1.one
  clear h
  go_enter Try.func72, Try.ntmps72
  go_wp2
  go_ret
  exact ⟨rfl, rfl⟩

theorem has_yes (p g : Nat) (l : List Int) (i : Int) (w : World) (h : IsArena w p g l) (h0 : 0 ≤ i) (h1 : i < l.length) : Calls Try.prog 66 #[.pointer (some ⟨p, 0, none⟩), .int .i64 i] w fun e w' => e = .returned (.bool true) ∧ w = w' := by
  have c0 := h.1.one
  clear h
  go_enter Try.func66, Try.ntmps66
  go_wp2
  go_ret
  exact ⟨rfl, rfl⟩
theorem has_no (p g : Nat) (l : List Int) (i : Int) (w : World) (h : IsArena w p g l) (h0 : i < 0 ∨ l.length ≤ i) : Calls Try.prog 66 #[.pointer (some ⟨p, 0, none⟩), .int .i64 i] w fun e w' => e = .returned (.bool false) ∧ w = w' := by
  have c0 := h.1.one
  clear h
  by_cases hi : i < 0
  · clear h0
    go_enter Try.func66, Try.ntmps66
    go_wp2
    go_ret
    exact ⟨rfl, rfl⟩
  · have h1 : (0 : Int) ≤ i := by omega
    have h2 : ¬ i < (l.length : Int) := by omega
    clear h0
    go_enter Try.func66, Try.ntmps66
    go_wp2
    go_ret
    exact ⟨rfl, rfl⟩

theorem load_nil (i : Int) (w : World) : Calls Try.prog 55 #[.pointer none, .int .i64 i] w fun e w' => e = .returned (.tuple #[.int .i64 0, .int .i64 2]) ∧ w = w' := by
  go_enter Try.func55, Try.ntmps55
  go_wp2
  go_ret2
  exact ⟨rfl, rfl⟩
theorem load_no (p g : Nat) (l : List Int) (i : Int) (w : World) (h : IsArena w p g l) (h0 : i < 0 ∨ l.length ≤ i) : Calls Try.prog 55 #[.pointer (some ⟨p, 0, none⟩), .int .i64 i] w fun e w' => e = .returned (.tuple #[.int .i64 0, .int .i64 2]) ∧ w = w' := by
  have H := Lib.hid h
  have H0 := Lib.hid h0
  clear h h0
  go_enter Try.func55, Try.ntmps55
  go_wp2_with (go_at_call 66; refine (has_no p g l i _ H.out H0.out).mono ?_; rintro e w' ⟨rfl, rfl⟩)
  go_ret2
  exact ⟨rfl, rfl⟩
theorem load_yes (p g : Nat) (l : List Int) (i : Int) (w : World) (h : IsArena w p g l) (h0 : 0 ≤ i) (h1 : i < l.length) : Calls Try.prog 55 #[.pointer (some ⟨p, 0, none⟩), .int .i64 i] w fun e w' => e = .returned (.tuple #[.int .i64 (l.getD i.toNat 0), .int .i64 0]) ∧ w = w' := by
  have c0 := h.1.one
  have c1 := h.2.int i.toNat (by omega)
  obtain ⟨v, hv⟩ : ∃ v, l.getD i.toNat 0 = v := ⟨_, rfl⟩
  rw [hv] at c1
  have HV := Lib.hid hv
  clear hv
  have H := Lib.hid h
  clear h
  go_enter Try.func55, Try.ntmps55
  go_wp2_with (go_at_call 66; refine (has_yes p g l i _ H.out h0 h1).mono ?_; rintro e w' ⟨rfl, rfl⟩)
  go_ret2
  rw [HV.out]
  exact ⟨rfl, rfl⟩

theorem store_nil (i x : Int) (w : World) : Calls Try.prog 59 #[.pointer none, .int .i64 i, .int .i64 x] w fun e w' => e = .returned (.int .i64 2) ∧ w = w' := by
  go_enter Try.func59, Try.ntmps59
  go_wp2
  go_ret
  exact ⟨rfl, rfl⟩
theorem store_no (p g : Nat) (l : List Int) (i x : Int) (w : World) (h : IsArena w p g l) (h0 : i < 0 ∨ l.length ≤ i) : Calls Try.prog 59 #[.pointer (some ⟨p, 0, none⟩), .int .i64 i, .int .i64 x] w fun e w' => e = .returned (.int .i64 2) ∧ w = w' := by
  have H := Lib.hid h
  have H0 := Lib.hid h0
  clear h h0
  go_enter Try.func59, Try.ntmps59
  go_wp2_with (go_at_call 66; refine (has_no p g l i _ H.out H0.out).mono ?_; rintro e w' ⟨rfl, rfl⟩)
  go_ret
  exact ⟨rfl, rfl⟩
theorem store_yes (p g : Nat) (l : List Int) (i x : Int) (w : World) (h : IsArena w p g l) (h0 : 0 ≤ i) (h1 : i < l.length) : Calls Try.prog 59 #[.pointer (some ⟨p, 0, none⟩), .int .i64 i, .int .i64 x] w fun e w' => e = .returned (.int .i64 0) ∧ IsArena w' p g (l.set i.toNat x) ∧ Upd [g] w w' := by
  have c0 := h.1.one
  have c1 := h.2.int i.toNat (by omega)
  have c2 := h.2.frozen i.toNat
  have H := Lib.hid h
  clear h
  go_enter Try.func59, Try.ntmps59
  go_wp2_with (go_at_call 66; refine (has_yes p g l i _ H.out h0 h1).mono ?_; rintro e w' ⟨rfl, rfl⟩)
  go_ret
  refine ⟨rfl, ⟨?_, ?_⟩, (Upd.refl _ _).setCell (by simp) _⟩
  · rw [List.length_set]
    exact H.out.1.far H.out.ne _
  · rw [← ints_set_]
    exact H.out.2.set_ _ _

theorem fill_nil (i n : Int) (w : World) : Calls Try.prog 71 #[.pointer none, .int .i64 i, .int .i64 n] w fun e w' => e = .returned (.int .i64 2) ∧ w = w' := by
  go_enter Try.func71, Try.ntmps71
  go_wp2
  go_ret
  exact ⟨rfl, rfl⟩
theorem fill_arg (p : Nat) (i n : Int) (w : World) (h : n < 0) : Calls Try.prog 71 #[.pointer (some ⟨p, 0, none⟩), .int .i64 i, .int .i64 n] w fun e w' => e = .returned (.int .i64 1) ∧ w = w' := by
  go_enter Try.func71, Try.ntmps71
  go_wp2
  go_ret
  exact ⟨rfl, rfl⟩
theorem fill_low (p : Nat) (i n : Int) (w : World) (h : ¬ n < 0) (h0 : i < 0) : Calls Try.prog 71 #[.pointer (some ⟨p, 0, none⟩), .int .i64 i, .int .i64 n] w fun e w' => e = .returned (.int .i64 2) ∧ w = w' := by
  go_enter Try.func71, Try.ntmps71
  go_wp2
  go_ret
  exact ⟨rfl, rfl⟩
theorem fill_no (p g : Nat) (l : List Int) (i n : Int) (w : World) (h : IsArena w p g l) (hl : l.length ≤ 16384) (hn : 0 < n) (h0 : 0 ≤ i) (h1 : l.length - i < n) (hi : i ≤ 9223372036854775807) : Calls Try.prog 71 #[.pointer (some ⟨p, 0, none⟩), .int .i64 i, .int .i64 n] w fun e w' => e = .returned (.int .i64 2) ∧ w = w' := by
  have c0 := h.1.one
  clear h
  by_cases hlt : i < (l.length : Int)
  all_goals
    go_enter Try.func71, Try.ntmps71
    go_wp2
    all_goals
      go_ret
      exact ⟨rfl, rfl⟩
theorem fill_zero (p g : Nat) (l : List Int) (i : Int) (w : World) (h : IsArena w p g l) (hl : l.length ≤ 16384) (h0 : 0 ≤ i) (hi : i ≤ 9223372036854775807) : Calls Try.prog 71 #[.pointer (some ⟨p, 0, none⟩), .int .i64 i, .int .i64 0] w fun e w' => e = .returned (.int .i64 0) ∧ w = w' := by
  have c0 := h.1.one
  clear h
  by_cases hlt : i < (l.length : Int)
  all_goals
    go_enter Try.func71, Try.ntmps71
    go_wp2
    all_goals
      go_ret
      exact ⟨rfl, rfl⟩
theorem fill_yes (p g : Nat) (l : List Int) (i n : Nat) (w : World) (h : IsArena w p g l) (hl : l.length ≤ 16384) (hn : 0 < n) (h1 : i + n ≤ l.length) : Calls Try.prog 71 #[.pointer (some ⟨p, 0, none⟩), .int .i64 i, .int .i64 n] w fun e w' => e = .returned (.int .i64 0) ∧ IsArena w' p g (l.take i ++ List.replicate n 0 ++ l.drop (i + n)) ∧ Upd [g] w w' := by
  have c0 := h.1.one
  have H := Lib.hid h
  clear h
  have hlt : (i : Int) < (l.length : Int) := by omega
  have hni : (0 : Int) ≤ i := by omega
  have hle : ((i : Int) + n) ≤ (l.length : Int) := by omega
  go_enter Try.func71, Try.ntmps71
  go_wp2_with ((with_reducible show wpList _ _ _ (⟨none, .call _, _, _, _, _⟩ :: _) _ _); refine wpList_clear_row rfl _ _ rfl 3 (.int .i64 0) 8 Try.underlying25 int_info rfl rfl g i (i + n - i) _ _ rfl (by omega) H.out.2 (by rw [ints_size]; omega) ?_)
  go_ret
  refine ⟨rfl, ⟨?_, ?_⟩, (Upd.refl _ _).setRow (by simp) _⟩
  · have e : (l.take i ++ List.replicate n 0 ++ l.drop (i + n)).length = l.length := by simp; omega
    rw [e]
    exact H.out.1.setRow_far H.out.ne _
  · have e : ints (l.take i ++ List.replicate n 0 ++ l.drop (i + n)) = ((ints l).toList.take i ++ (List.replicate n (Value.int .i64 0) ++ (ints l).toList.drop (i + n))).toArray := by simp [ints, List.map_take, List.map_drop]
    rw [e]
    exact H.out.2.setRow _

/-- The words behind a fill. -/
def filledAt (l : List Int) (i n : Nat) : List Int := l.take i ++ List.replicate n 0 ++ l.drop (i + n)
theorem filledAt_length (l : List Int) (i n : Nat) (h : i + n ≤ l.length) : (filledAt l i n).length = l.length := by
  unfold filledAt; simp; omega
theorem filledAt_get (l : List Int) (i n j : Nat) (h : i + n ≤ l.length) : (filledAt l i n).getD j 0 = if i ≤ j ∧ j < i + n then 0 else l.getD j 0 := by
  unfold filledAt
  simp only [List.getD_eq_getElem?_getD]
  by_cases h1 : j < i
  · rw [if_neg (by omega), List.append_assoc, List.getElem?_append_left (by simp; omega), List.getElem?_take_of_lt h1]
  · by_cases h2 : j < i + n
    · rw [if_pos (by omega), List.getElem?_append_left (by simp; omega), List.getElem?_append_right (by simp; omega), List.getElem?_replicate]
      split <;> rfl
    · rw [if_neg (by omega), List.getElem?_append_right (by simp; omega), List.getElem?_drop]
      congr 2
      simp; omega
theorem fill_at (p g : Nat) (l : List Int) (i n : Int) (w : World) (h : IsArena w p g l) (hl : l.length ≤ 16384) (h0 : 0 ≤ i) (hn : 0 < n) (h1 : i + n ≤ l.length) : Calls Try.prog 71 #[.pointer (some ⟨p, 0, none⟩), .int .i64 i, .int .i64 n] w fun e w' => e = .returned (.int .i64 0) ∧ IsArena w' p g (filledAt l i.toNat n.toNat) ∧ Upd [g] w w' := by
  obtain ⟨i, rfl⟩ := Int.eq_ofNat_of_zero_le h0
  obtain ⟨n, rfl⟩ := Int.eq_ofNat_of_zero_le (show 0 ≤ n by omega)
  exact fill_yes p g l i n w h hl (by omega) (by omega)
end Go.Proofs.Ytendjhobemlhoaa
