/- The contracts of package bits: New, Size, place, Has, Set, over a state: which places are so. -/
import Derived.Test.YtendjhobemlhoaaChecked
import Derived.Test.YtendjhobemlhoaaBase
import Derived.Test.YtendjhobemlhoaaArena
namespace Go.Proofs.Ytendjhobemlhoaa
open Go Go.RowKit

/-- Bits at block p, their places at block g. -/
def IsBits (w : World) (p g : Nat) (l : List Bool) : Prop := Blk w p 141 #[.slice (some ⟨g, 0, none⟩) l.length l.length] ∧ Blk w g 4 (bools l)
section
variable {w w' : World} {p g : Nat} {l : List Bool} {E : List Nat}
theorem IsBits.ne (h : IsBits w p g l) : p ≠ g := h.1.ne_ h.2 (by decide)
theorem IsBits.upd (h : IsBits w p g l) (hu : Upd E w w') (hp : p ∉ E) (hg : g ∉ E) : IsBits w' p g l := ⟨h.1.upd hu hp, h.2.upd hu hg⟩
theorem IsBits.below {B : Nat} (h : IsBits w p g l) (hu : Below B w w') (hp : p < B) (hg : g < B) : IsBits w' p g l := ⟨h.1.below hu hp, h.2.below hu hg⟩
theorem IsBits.drew (h : IsBits w p g l) : IsBits w.drew p g l := h
theorem IsBits.alloc (h : IsBits w p g l) (o : Obj) : IsBits (w.alloc o) p g l := ⟨h.1.alloc o, h.2.alloc o⟩
end

def NewBits (n : Nat) (w : World) (e : Ending) (w' : World) : Prop := ∃ p g, e = .returned (.tuple #[.pointer (some ⟨p, 0, none⟩), .int .i64 0]) ∧ IsBits w' p g (List.replicate n false) ∧
  w.heap.size ≤ p ∧ w.heap.size ≤ g ∧ Below w.heap.size w w'

theorem bool_info : (Try.prog.info? 4).map (fun i => (i.zero, i.size, i.bytes)) = some (some (.bool false), 1, 1) := by kernel_rfl

theorem bits_new_no (n : Int) (w : World) (h : n < 0 ∨ 16384 < n) : Calls Try.prog 87 #[.int .i64 n] w fun e w' => e = .returned (.tuple #[.pointer none, .int .i64 1]) ∧ w = w' := by
  rcases h with h | h
  · go_enter Try.func87, Try.ntmps87
    go_wp2
    go_ret2
    exact ⟨rfl, rfl⟩
  · have h' : ¬ n < 0 := by omega
    go_enter Try.func87, Try.ntmps87
    go_wp2
    go_ret2
    exact ⟨rfl, rfl⟩

theorem bits_new_yes (n : Nat) (w : World) (h2 : n ≤ 16384) : Calls Try.prog 87 #[.int .i64 n] w (NewBits n w) := by
  have hmk := fun W => run_make_all (P := Try.prog) 139 4 (.bool false) 1 Try.underlying139 bool_info rfl (n : Int) n rfl (by omega) (by omega) W
  go_enter Try.func87, Try.ntmps87
  go_wp2
  go_ret2
  refine ⟨w.heap.size + 1, w.heap.size, rfl, ⟨?_, ?_⟩, by omega, by omega, (((Below.refl _ _).alloc (Nat.le_refl _) _).alloc (by simp) _)⟩
  · have := Blk.new (w.alloc (.cells (Array.replicate n (.bool false)) 4)) 141 #[.slice (some ⟨w.heap.size, 0, none⟩) n n]
    simpa using this
  · rw [bools_zero]
    exact (Blk.new w _ _).alloc _

theorem bits_size_nil (w : World) : Calls Try.prog 94 #[.pointer none] w fun e w' => e = .returned (.int .i64 0) ∧ w = w' := by
  go_enter Try.func94, Try.ntmps94
  go_wp2
  go_ret
  exact ⟨rfl, rfl⟩
theorem bits_size (p g : Nat) (l : List Bool) (w : World) (h : IsBits w p g l) : Calls Try.prog 94 #[.pointer (some ⟨p, 0, none⟩)] w fun e w' => e = .returned (.int .i64 l.length) ∧ w = w' := by
  have h0 := h.1.one
  clear h
  go_enter Try.func94, Try.ntmps94
  go_wp2
  go_ret
  exact ⟨rfl, rfl⟩

/-- Is there a place? Is it so? -/
def placeB (l : List Bool) (i : Int) : Bool := decide (0 ≤ i ∧ i < l.length)
def hasB (l : List Bool) (i : Int) : Bool := decide (0 ≤ i) && l.getD i.toNat false
theorem placeB_no {l : List Bool} {i : Int} (h : i < 0 ∨ l.length ≤ i) : placeB l i = false := by unfold placeB; rw [decide_eq_false_iff_not]; omega
theorem placeB_yes {l : List Bool} {i : Int} (h0 : 0 ≤ i) (h1 : i < l.length) : placeB l i = true := by unfold placeB; rw [decide_eq_true_eq]; omega
theorem hasB_no {l : List Bool} {i : Int} (h : i < 0 ∨ l.length ≤ i) : hasB l i = false := by
  unfold hasB
  by_cases hi : i < 0
  · rw [decide_eq_false (by omega)]; rfl
  · rw [List.getD_eq_getElem?_getD, List.getElem?_eq_none (by omega)]; simp
theorem hasB_yes {l : List Bool} {i : Int} (h0 : 0 ≤ i) : hasB l i = l.getD i.toNat false := by
  unfold hasB
  rw [decide_eq_true h0]; rfl
theorem hasB_nat (l : List Bool) (i : Nat) : hasB l i = l.getD i false := by rw [hasB_yes (by omega)]; simp

theorem place_nil (i : Int) (w : World) : Calls Try.prog 86 #[.pointer none, .int .i64 i] w fun e w' => e = .returned (.bool false) ∧ w = w' := by
  by_cases hi : i < 0
  · have h1 : ¬ (0 : Int) ≤ i := by omega
    go_enter Try.func86, Try.ntmps86
    go_wp2_with fail
    go_ret
    exact ⟨rfl, rfl⟩
  · have h1 : (0 : Int) ≤ i := by omega
    go_enter Try.func86, Try.ntmps86
    go_wp2_with fail
    refine (bits_size_nil _).mono ?_
    rintro e w' ⟨rfl, rfl⟩
    go_wp2_with fail
    go_ret
    exact ⟨by simpa using hi, rfl⟩

theorem place_any (p g : Nat) (l : List Bool) (i : Int) (w : World) (h : IsBits w p g l) : Calls Try.prog 86 #[.pointer (some ⟨p, 0, none⟩), .int .i64 i] w fun e w' => e = .returned (.bool (placeB l i)) ∧ w = w' := by
  have H := Lib.hid h
  clear h
  by_cases hi : i < 0
  · have h1 : ¬ (0 : Int) ≤ i := by omega
    go_enter Try.func86, Try.ntmps86
    go_wp2_with fail
    go_ret
    exact ⟨by rw [placeB_no (.inl hi)]; rfl, rfl⟩
  · have h1 : (0 : Int) ≤ i := by omega
    by_cases h2 : i < (l.length : Int)
    all_goals
      go_enter Try.func86, Try.ntmps86
      go_wp2_with fail
      refine (bits_size p g l _ H.out).mono ?_
      rintro e w' ⟨rfl, rfl⟩
      go_wp2_with fail
      go_ret
    · exact ⟨by rw [placeB_yes h1 h2]; rfl, rfl⟩
    · exact ⟨by rw [placeB_no (.inr (by omega))]; simpa using h2, rfl⟩

theorem bits_has_nil (i : Int) (w : World) : Calls Try.prog 74 #[.pointer none, .int .i64 i] w fun e w' => e = .returned (.bool false) ∧ w = w' := by
  go_enter Try.func74, Try.ntmps74
  go_wp2_with fail
  refine (place_nil i _).mono ?_
  rintro e w' ⟨rfl, rfl⟩
  go_wp2_with fail
  go_ret
  exact ⟨rfl, rfl⟩

theorem bits_has (p g : Nat) (l : List Bool) (i : Int) (w : World) (h : IsBits w p g l) : Calls Try.prog 74 #[.pointer (some ⟨p, 0, none⟩), .int .i64 i] w fun e w' => e = .returned (.bool (hasB l i)) ∧ w = w' := by
  by_cases hi : i < 0 ∨ l.length ≤ i
  · have HI := Lib.hid hi
    have H := Lib.hid h
    clear hi h
    go_enter Try.func74, Try.ntmps74
    go_wp2_with fail
    refine (place_any p g l i _ H.out).mono ?_
    rw [placeB_no HI.out]
    rintro e w' ⟨rfl, rfl⟩
    go_wp2_with fail
    go_ret
    exact ⟨by rw [hasB_no HI.out]; rfl, rfl⟩
  · have h0 : 0 ≤ i := by omega
    have h1 : i < l.length := by omega
    clear hi
    have c0 := h.1.one
    have c1 := h.2.bool i.toNat (by omega)
    obtain ⟨v, hv⟩ : ∃ v, l.getD i.toNat false = v := ⟨_, rfl⟩
    rw [hv] at c1
    have HV := Lib.hid hv
    have H := Lib.hid h
    clear h hv
    go_enter Try.func74, Try.ntmps74
    go_wp2_with fail
    refine (place_any p g l i _ H.out).mono ?_
    rw [placeB_yes h0 h1]
    rintro e w' ⟨rfl, rfl⟩
    go_wp2_with fail
    go_ret
    exact ⟨by rw [hasB_yes h0, HV.out]; rfl, rfl⟩

/-- The test that Set hands over: is there no such place? -/
theorem set1_any (p g q : Nat) (l : List Bool) (i : Int) (w : World) (h : IsBits w p g l) (hq : w.cell? ⟨q, 0, none⟩ = some (.pointer (some ⟨p, 0, none⟩))) :
    Calls Try.prog 96 #[.int .i64 i, .pointer (some ⟨q, 0, none⟩)] w fun e w' => e = .returned (.bool (!placeB l i)) ∧ w = w' := by
  have H := Lib.hid h
  clear h
  obtain ⟨v, hv⟩ : ∃ v, placeB l i = v := ⟨_, rfl⟩
  have HV := Lib.hid hv
  clear hv
  go_enter Try.func96, Try.ntmps96
  go_wp2_with fail
  refine (place_any p g l i _ H.out).mono ?_
  rw [HV.out]
  rintro e w' ⟨rfl, rfl⟩
  go_wp2_with fail
  go_ret
  exact ⟨by rw [HV.out]; rfl, rfl⟩

/-- A slice of numbers that can be read. -/
def IsInts (w : World) (A : Option Addr) (xs : List Int) : Prop := xs = [] ∨ ∃ b off, A = some ⟨b, off, none⟩ ∧ b < w.heap.size ∧ ∀ i, i < xs.length → w.cell? ⟨b, off + i, none⟩ = some (.int .i64 (xs.getD i 0))
theorem IsInts.upd {w w' : World} {A : Option Addr} {xs : List Int} {E : List Nat} (h : IsInts w A xs) (hu : Upd E w w') (hE : xs = [] ∨ ∀ a, A = some a → a.block ∉ E) : IsInts w' A xs := by
  rcases h with h | ⟨b, off, rfl, hb, hc⟩
  · exact .inl h
  · rcases hE with hE | hE
    · exact .inl hE
    · refine .inr ⟨b, off, rfl, Nat.lt_of_lt_of_le hb hu.size, fun i hi => ?_⟩
      rw [hu.cell (p := ⟨b, off + i, none⟩) hb (show b ∉ E from hE _ rfl)]
      exact hc i hi

/-- The first place of a list that there is not. -/
theorem index_func (p g q : Nat) (l : List Bool) (A : Option Addr) (cap : Nat) (xs : List Int) (w : World) (h : IsBits w p g l) (hq : w.cell? ⟨q, 0, none⟩ = some (.pointer (some ⟨p, 0, none⟩)))
    (hA : IsInts w A xs) (hl : xs.length ≤ 4294967296) :
    Calls Try.prog 100 #[.slice A xs.length cap, .func (.func 96) #[] #[.pointer (some ⟨q, 0, none⟩)]] w
      fun e w' => (∃ r : Int, e = .returned (.int .i64 r) ∧ decide (0 ≤ r) = xs.any fun x => !placeB l x) ∧ w = w' := by
  have H := Lib.hid h
  have Hq := Lib.hid hq
  have HA := Lib.hid hA
  clear h hq hA
  obtain ⟨n, hn⟩ : ∃ n, xs.length = n := ⟨_, rfl⟩
  have HN := Lib.hid hn
  rw [hn] at hl ⊢
  clear hn
  go_enter Try.func100, Try.ntmps100
  go_wp2_with fail
  go_loopw [8] (fun i wr => ∃ k : Nat, k ≤ n ∧ i = .int .i64 k ∧ w = wr ∧ Hid (∀ j, j < k → placeB l (xs.getD j 0) = true)) (fun i _ => n - (intOf i).toNat)
  case atStart => exact ⟨0, Nat.zero_le _, rfl, rfl, Lib.hid (fun j hj => by omega)⟩
  case round =>
    obtain ⟨k, hk, rfl, rfl, HP⟩ := hrel
    by_cases hlt : k < n
    · obtain ⟨b, off, rfl, hb, hc⟩ : ∃ b off, A = some ⟨b, off, none⟩ ∧ b < w.heap.size ∧ ∀ i, i < xs.length → w.cell? ⟨b, off + i, none⟩ = some (.int .i64 (xs.getD i 0)) := by
        rcases HA.out with h0 | h0
        · exfalso; have := HN.out; rw [h0] at this; simp at this; omega
        · exact h0
      have hc := hc k (by rw [HN.out]; exact hlt)
      obtain ⟨v, hv⟩ : ∃ v, xs.getD k 0 = v := ⟨_, rfl⟩
      rw [hv] at hc
      have HV := Lib.hid hv
      clear hv hb
      obtain ⟨t, ht⟩ : ∃ t, placeB l v = t := ⟨_, rfl⟩
      have HT := Lib.hid ht
      clear ht
      go_wp2_with fail
      refine (set1_any p g q l v _ H.out Hq.out).mono ?_
      rw [HT.out]
      rintro e w' ⟨rfl, rfl⟩
      cases t with
      | true =>
        go_wp2_with fail
        go_roundw
        case rel => exact ⟨k + 1, by omega, by go_num, trivial, Lib.hid (fun j hj => by
          rcases Nat.lt_or_ge j k with h1 | h1
          · exact HP.out j h1
          · obtain rfl : j = k := by omega
            rw [HV.out]; exact HT.out)⟩
        case measure => simp [intOf]; omega
      | false =>
        go_wp2_with fail
        go_ret
        refine ⟨⟨k, rfl, ?_⟩, rfl⟩
        rw [decide_eq_true (by omega)]
        symm
        rw [List.any_eq_true]
        have hkx : k < xs.length := by rw [HN.out]; exact hlt
        refine ⟨xs[k], List.getElem_mem hkx, ?_⟩
        have hv := HV.out
        rw [List.getD_eq_getElem?_getD, List.getElem?_eq_getElem hkx] at hv
        simp only [Option.getD_some] at hv
        rw [hv, HT.out]
        rfl
    · obtain rfl : k = n := by omega
      go_wp2_with fail
      go_ret
      refine ⟨⟨-1, rfl, ?_⟩, rfl⟩
      rw [decide_eq_false (by omega)]
      symm
      rw [List.any_eq_false]
      intro x hx
      obtain ⟨j, hj, rfl⟩ := List.getElem_of_mem hx
      have := HP.out j (by rw [← HN.out]; exact hj)
      rw [List.getD_eq_getElem?_getD, List.getElem?_eq_getElem hj] at this
      simp only [Option.getD_some] at this
      rw [this]
      simp

theorem contains_func (p g q : Nat) (l : List Bool) (A : Option Addr) (cap : Nat) (xs : List Int) (w : World) (h : IsBits w p g l) (hq : w.cell? ⟨q, 0, none⟩ = some (.pointer (some ⟨p, 0, none⟩)))
    (hA : IsInts w A xs) (hl : xs.length ≤ 4294967296) :
    Calls Try.prog 95 #[.slice A xs.length cap, .func (.func 96) #[] #[.pointer (some ⟨q, 0, none⟩)]] w
      fun e w' => e = .returned (.bool (xs.any fun x => !placeB l x)) ∧ w = w' := by
  have H := Lib.hid h
  have Hq := Lib.hid hq
  have HA := Lib.hid hA
  have HL := Lib.hid hl
  clear h hq hA hl
  obtain ⟨v, hv⟩ : ∃ v, (xs.any fun x => !placeB l x) = v := ⟨_, rfl⟩
  have HV := Lib.hid hv
  obtain ⟨n, hn⟩ : ∃ n, xs.length = n := ⟨_, rfl⟩
  have HN := Lib.hid hn
  rw [hv, hn]
  clear hn hv
  go_enter Try.func95, Try.ntmps95
  go_wp2_with fail
  have := index_func p g q l A cap xs _ H.out Hq.out HA.out HL.out
  rw [HN.out] at this
  refine this.mono ?_
  rw [HV.out]
  rintro e w' ⟨⟨r, rfl, hr⟩, rfl⟩
  go_wp2_with fail
  go_ret
  exact ⟨by rw [← hr]; simp, rfl⟩

/-- Places of a list be so, or not. -/
def setAll (l : List Bool) (is : Bool) (xs : List Int) : List Bool := xs.foldl (fun l i => l.set i.toNat is) l
theorem setAll_length (l : List Bool) (is : Bool) (xs : List Int) : (setAll l is xs).length = l.length := by
  unfold setAll
  induction xs generalizing l with
  | nil => rfl
  | cons x xs ih => rw [List.foldl_cons, ih, List.length_set]
theorem setAll_take (l : List Bool) (is : Bool) (xs : List Int) (k : Nat) (hk : k < xs.length) : setAll l is (xs.take (k + 1)) = (setAll l is (xs.take k)).set (xs.getD k 0).toNat is := by
  unfold setAll
  rw [List.take_add_one, List.getElem?_eq_getElem hk, List.getD_eq_getElem?_getD, List.getElem?_eq_getElem hk]
  simp only [Option.toList_some, Option.getD_some, List.foldl_append, List.foldl_cons, List.foldl_nil]

theorem set_nil (is : Bool) (A : Option Addr) (n cap : Nat) (w : World) : Calls Try.prog 88 #[.pointer none, .bool is, .slice A n cap] w fun e w' => e = .returned (.int .i64 2) ∧ Below w.heap.size w w' := by
  have hmf : ∀ (fn : Fn) (first cap : Array Value) (w : World), (Instr.makeFunc fn first cap).run Try.prog w = .ok (.func fn first cap) w := fun _ _ _ _ => rfl
  go_enter Try.func88, Try.ntmps88
  go_wp2_with fail
  go_ret
  exact ⟨rfl, (Below.refl _ _).alloc (Nat.le_refl _) _⟩

theorem set_no (p g : Nat) (l : List Bool) (is : Bool) (A : Option Addr) (cap : Nat) (xs : List Int) (w : World) (h : IsBits w p g l) (hA : IsInts w A xs) (hl : xs.length ≤ 4294967296) (hno : ∃ x ∈ xs, placeB l x = false) :
    Calls Try.prog 88 #[.pointer (some ⟨p, 0, none⟩), .bool is, .slice A xs.length cap] w fun e w' => e = .returned (.int .i64 2) ∧ Below w.heap.size w w' := by
  have hmf : ∀ (fn : Fn) (first cap : Array Value) (w : World), (Instr.makeFunc fn first cap).run Try.prog w = .ok (.func fn first cap) w := fun _ _ _ _ => rfl
  obtain ⟨v, hv⟩ : ∃ v : Value, Value.pointer (some ⟨p, 0, none⟩) = v := ⟨_, rfl⟩
  have hU : Upd [] w (w.alloc (.cells #[.pointer (some ⟨p, 0, none⟩)] 126)) := (Upd.refl _ _).alloc _
  have H := Lib.hid (h.upd hU (by simp) (by simp))
  have hA' := hA.upd hU (.inr (by simp))
  have hb := (Blk.new w 126 #[.pointer (some ⟨p, 0, none⟩)]).one
  have HA := Lib.hid hA'
  have HB := Lib.hid hb
  have HL := Lib.hid hl
  have hany : (xs.any fun x => !placeB l x) = true := by
    rw [List.any_eq_true]
    obtain ⟨x, hx, hp⟩ := hno
    exact ⟨x, hx, by rw [hp]; rfl⟩
  have HANY := Lib.hid hany
  clear h hA hl hU hA' hb hany hno hv v
  obtain ⟨n, hn⟩ : ∃ n, xs.length = n := ⟨_, rfl⟩
  have HN := Lib.hid hn
  rw [hn]
  clear hn
  go_enter Try.func88, Try.ntmps88
  go_wp2_with fail
  have hc := contains_func p g _ l A cap xs _ H.out HB.out HA.out HL.out
  rw [HN.out, HANY.out] at hc
  refine hc.mono ?_
  rintro e w' ⟨rfl, rfl⟩
  clear hc
  go_wp2_with fail
  go_ret
  exact ⟨rfl, (Below.refl _ _).alloc (Nat.le_refl _) _⟩

theorem set_yes (p g : Nat) (l : List Bool) (is : Bool) (A : Option Addr) (cap : Nat) (xs : List Int) (w : World) (h : IsBits w p g l) (hA : IsInts w A xs) (hl : xs.length ≤ 4294967296) (hyes : ∀ x ∈ xs, placeB l x = true) :
    Calls Try.prog 88 #[.pointer (some ⟨p, 0, none⟩), .bool is, .slice A xs.length cap] w fun e w' => e = .returned (.int .i64 0) ∧ IsBits w' p g (setAll l is xs) ∧ Upd [g] w w' := by
  have hmf : ∀ (fn : Fn) (first cap : Array Value) (w : World), (Instr.makeFunc fn first cap).run Try.prog w = .ok (.func fn first cap) w := fun _ _ _ _ => rfl
  have hU : Upd [] w (w.alloc (.cells #[.pointer (some ⟨p, 0, none⟩)] 126)) := (Upd.refl _ _).alloc _
  have H := Lib.hid (h.upd hU (by simp) (by simp))
  have hA' := hA.upd hU (.inr (by simp))
  have hb := (Blk.new w 126 #[.pointer (some ⟨p, 0, none⟩)])
  have HA := Lib.hid hA'
  have HB := Lib.hid hb
  have HL := Lib.hid hl
  have hgw := h.2.lt
  have HGQ : Hid (g ≠ w.heap.size ∧ p ≠ w.heap.size) := Lib.hid ⟨by omega, by have := h.1.lt; omega⟩
  have hany : (xs.any fun x => !placeB l x) = false := by
    rw [List.any_eq_false]
    intro x hx
    rw [hyes x hx]
    simp
  have HANY := Lib.hid hany
  have HY := Lib.hid hyes
  have HU := Lib.hid ((hU.mono (E' := [g]) (by simp)))
  clear h hA hU hA' hb hany hyes hgw
  obtain ⟨n, hn⟩ : ∃ n, xs.length = n := ⟨_, rfl⟩
  have HN := Lib.hid hn
  rw [hn] at hl ⊢
  clear hn
  go_enter Try.func88, Try.ntmps88
  go_wp2_with fail
  have hc := contains_func p g _ l A cap xs _ H.out HB.out.one HA.out HL.out
  rw [HN.out, HANY.out] at hc
  refine hc.mono ?_
  rintro e w' ⟨rfl, rfl⟩
  clear hc
  obtain ⟨q, hq⟩ : ∃ q, w.heap.size = q := ⟨_, rfl⟩
  rw [hq] at HB HGQ
  obtain ⟨w1, hw1⟩ : ∃ w1, w.alloc (.cells #[.pointer (some ⟨p, 0, none⟩)] 126) = w1 := ⟨_, rfl⟩
  rw [hw1] at HB H HA HU
  simp only [hq, hw1]
  clear hw1 hq
  go_wp2_with fail
  go_loopw [18] (fun i wr => ∃ k : Nat, k ≤ n ∧ i = .int .i64 k ∧ Hid (IsBits wr p g (setAll l is (xs.take k))) ∧ Hid (Upd [g] w1 wr)) (fun i _ => n - (intOf i).toNat)
  case atStart => exact ⟨0, Nat.zero_le _, rfl, H, Lib.hid (Upd.refl _ _)⟩
  case round =>
    obtain ⟨k, hk, rfl, HK, HUK⟩ := hrel
    by_cases hlt : k < n
    · have hkx : k < xs.length := by rw [HN.out]; exact hlt
      obtain ⟨b, off, rfl, hb, hc⟩ : ∃ b off, A = some ⟨b, off, none⟩ ∧ b < w1.heap.size ∧ ∀ i, i < xs.length → w1.cell? ⟨b, off + i, none⟩ = some (.int .i64 (xs.getD i 0)) := by
        rcases HA.out with h0 | h0
        · exfalso; have := HN.out; rw [h0] at this; simp at this; omega
        · exact h0
      have hc := hc k hkx
      have hbg : b ≠ g := by
        rintro rfl
        have h1 := H.out.2.cell (off + k)
        rw [hc, bools_at] at h1
        rcases h2 : l[off + k]? with _ | y <;> rw [h2] at h1 <;> simp at h1
      have hcr := (HUK.out.cell (p := ⟨b, off + k, none⟩) hb (show b ∉ [g] by simpa using hbg)).trans hc
      have hp := HY.out _ (List.getElem_mem hkx)
      have hx : xs.getD k 0 = xs[k] := by rw [List.getD_eq_getElem?_getD, List.getElem?_eq_getElem hkx]; rfl
      rw [← hx] at hp
      obtain ⟨v, hv⟩ : ∃ v, xs.getD k 0 = v := ⟨_, rfl⟩
      rw [hv] at hcr hp
      have HV := Lib.hid hv
      unfold placeB at hp
      rw [decide_eq_true_eq] at hp
      obtain ⟨hp0, hp1⟩ := hp
      have hst := setAll_take l is xs k hkx
      rw [hv] at hst
      have HST := Lib.hid hst
      obtain ⟨L, hL⟩ : ∃ L, setAll l is (xs.take k) = L := ⟨_, rfl⟩
      have hLL : L.length = l.length := by rw [← hL, setAll_length]
      rw [hL] at HK HST
      have c0 := HK.out.1.one
      rw [hLL] at c0
      have c1 := HK.out.2.bool v.toNat (by omega)
      have c2 := HK.out.2.frozen v.toNat
      have c3 := (HB.out.upd HUK.out (show q ∉ [g] by simpa using (HGQ.out.1).symm)).one
      clear hv hb hc hst hL hx
      go_wp2_with fail
      go_roundw
      case rel =>
        refine ⟨k + 1, by omega, by go_num, Lib.hid ⟨?_, ?_⟩, Lib.hid (HUK.out.setCell (by simp) _)⟩
        · rw [HST.out, List.length_set]
          exact HK.out.1.far HK.out.ne _
        · rw [HST.out, ← bools_set]
          exact HK.out.2.set_ _ _
      case measure => simp [intOf]; omega
    · obtain rfl : k = n := by omega
      go_wp2_with fail
      go_ret
      refine ⟨rfl, ?_, HU.out.trans HUK.out⟩
      have := HK.out
      rw [← HN.out, List.take_length] at this
      exact this
end Go.Proofs.Ytendjhobemlhoaa
