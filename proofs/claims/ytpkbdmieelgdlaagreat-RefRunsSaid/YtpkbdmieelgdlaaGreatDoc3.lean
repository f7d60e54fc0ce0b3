/- The document's space: pages, fill. -/
import Derived.Test.YtpkbdmieelgdlaaGreatDocR
import Derived.Deep.CutBlock
import Derived.Deep.DeepCutAuto
namespace Go.Proofs.YtpkbdmieelgdlaaGreat
open Go Go.RowKit

theorem taken_kind (x : Pst) (hz : ∀ c l, x = .small c l → c < 5) : (kindZ x = 0 ∧ x.taken = false) ∨ (kindZ x ≠ 0 ∧ x.taken = true) := by
  cases x with
  | zero => exact .inr ⟨by simp [kindZ], rfl⟩
  | free => exact .inl ⟨rfl, rfl⟩
  | small c l => exact .inr ⟨by simp only [kindZ]; omega, rfl⟩
  | first k => exact .inr ⟨by simp [kindZ], rfl⟩
  | rest f => exact .inr ⟨by simp [kindZ], rfl⟩
def partB (l : List Bool) (j : Nat) : List Bool := l.take j ++ List.replicate (l.length - j) false
theorem partB_len {l : List Bool} {j : Nat} (h : j ≤ l.length) : (partB l j).length = l.length := by unfold partB; simp; omega
theorem partB_zero (l : List Bool) : partB l 0 = List.replicate l.length false := by simp [partB]
theorem partB_all (l : List Bool) : partB l l.length = l := by simp [partB]
theorem partB_set {l : List Bool} {j : Nat} (h : j < l.length) : (partB l j).set j (l.getD j false) = partB l (j + 1) := by
  apply ext_getD
  · rw [List.length_set, partB_len (by omega), partB_len h]
  · intro i hi
    rw [List.length_set, partB_len (by omega)] at hi
    rw [getD_set, partB_len (by omega)]
    unfold partB
    rw [List.getD_eq_getElem?_getD, List.getD_eq_getElem?_getD (l := _ ++ _), List.getD_eq_getElem?_getD (l := _ ++ _), List.getElem?_append, List.getElem?_append, List.length_take, List.length_take]
    by_cases h1 : j = i
    · subst h1
      rw [if_pos ⟨rfl, h⟩, if_pos (by omega), List.getElem?_take_of_lt (by omega)]
    · rw [if_neg (fun e => h1 e.1)]
      by_cases h2 : i < j
      · rw [if_pos (by omega), if_pos (by omega), List.getElem?_take_of_lt h2, List.getElem?_take_of_lt (by omega)]
      · rw [if_neg (by omega), if_neg (by omega), List.getElem?_replicate, List.getElem?_replicate]
        (repeat' split) <;> rfl
section
variable {O : Nat → Prop}
set_option maxRecDepth 100000 in
set_option maxHeartbeats 1600000 in
theorem doc_pages (m : Nat) (S : Sp) (w : World) (H : DocO w m S O) : Calls Tryz.prog 86 #[.pointer (some ⟨m, 0, none⟩)] w fun e w' =>
    ∃ g, e = .returned (.slice (some ⟨g, 0, none⟩) S.pg.length S.pg.length) ∧ Blk w' g 4 (bools (bitsOf S.pg)) ∧ w.heap.size ≤ g ∧ Upd [] w w' := by
  obtain ⟨D, H, rfl⟩ := H
  have hn2 := H.wf.n2
  have hbl : (bitsOf S.pg).length = S.pg.length := by simp [bitsOf]
  have HAT : Hid (∀ j, j < S.pg.length → ∃ z b, w.cell? ⟨D.gk, j, none⟩ = some (.int .i64 z) ∧ (bitsOf S.pg).getD j false = b ∧ (z = 0 ∧ b = false ∨ z ≠ 0 ∧ b = true)) := Lib.hid fun j hj => by
    refine ⟨_, _, (H.kindAt hj).1, rfl, ?_⟩
    have := taken_kind (atP S.pg j) (fun c l e => (H.wf.small j c l e).1)
    have e : (bitsOf S.pg).getD j false = (atP S.pg j).taken := by
      unfold bitsOf atP
      rw [List.getD_eq_getElem?_getD, List.getD_eq_getElem?_getD, List.getElem?_map, List.getElem?_eq_getElem hj]; rfl
    rw [e]
    exact this
  obtain ⟨c0, c1, c2, c3⟩ := H.cells
  have hgk := H.kind.lt
  have hm := H.box.lt
  obtain ⟨n, hn⟩ : ∃ n, S.pg.length = n := ⟨_, rfl⟩
  rw [hn] at HAT hbl hn2 c0 c1 c2 c3 ⊢
  have HBL := Lib.hid hbl
  have hmk := fun W => run_make_all (P := Tryz.prog) 142 4 (.bool false) 1 Tryz.underlying142 bool_info rfl (n : Int) n rfl (by omega) (by omega) W
  have HB0 : Hid (Blk (w.alloc (.cells (Array.replicate n (.bool false)) 4)) w.heap.size 4 (bools (partB (bitsOf S.pg) 0))) := Lib.hid (by
    rw [partB_zero, bools_zero, hbl]
    exact Blk.new _ _ _)
  generalize D.gk = gk at *
  obtain ⟨bl, hbb⟩ : ∃ bl, bitsOf S.pg = bl := ⟨_, rfl⟩
  rw [hbb] at HAT HBL HB0 ⊢
  clear hbl hn hbb H
  go_enter Tryz.func86, Tryz.ntmps86
  go_wp2_with fail
  clear hmk
  obtain ⟨G, hG⟩ : ∃ G, w.heap.size = G := ⟨_, rfl⟩
  have HU0 : Hid (Upd [] w (w.alloc (.cells (Array.replicate n (.bool false)) 4))) := Lib.hid ((Upd.refl [] w).alloc _)
  rw [hG] at HB0
  simp only [hG]
  have HGE : Hid (w.heap.size ≤ G) := Lib.hid (by omega)
  have HNG : Hid (gk ≠ G ∧ m ≠ G) := Lib.hid (by omega)
  have HC := Lib.hid (And.intro c1 (And.intro hgk hm))
  clear hG c0 c1 c2 c3 hgk hm
  go_loopg [4] n (fun gkk i wr => ∃ j : Nat, gkk = n - j ∧ j ≤ n ∧ i = .int .i64 j ∧ Hid (Blk wr G 4 (bools (partB bl j))) ∧ Hid (Upd [] w wr))
  case atStart => exact ⟨0, rfl, by omega, rfl, HB0, HU0⟩
  case round =>
    clear HB0 HU0
    obtain ⟨j, rfl, hj, rfl, HB, HU⟩ := hrel
    by_cases hlt : j < n
    · obtain ⟨z, b, hz, hb, hzb⟩ := HAT.out j hlt
      have c1 : wr.cell? ⟨m, 1, none⟩ = some (.slice (some ⟨gk, 0, none⟩) n n) := (HU.out.cell (p := ⟨m, 1, none⟩) HC.out.2.2 (by simp)).trans HC.out.1
      have c2 : wr.cell? ⟨gk, j, none⟩ = some (.int .i64 z) := (HU.out.cell (p := ⟨gk, j, none⟩) HC.out.2.1 (by simp)).trans hz
      have c3 := HB.out.bool j (by rw [partB_len (by rw [HBL.out]; exact hj), HBL.out]; exact hlt)
      have c4 := HB.out.frozen j
      have HS : Hid ((partB bl j).set j b = partB bl (j + 1)) := Lib.hid (by rw [← hb]; exact partB_set (by rw [HBL.out]; exact hlt))
      have hnext : Blk (wr.setCell ⟨G, j, none⟩ (.bool b)) G 4 (bools (partB bl (j + 1))) := by
        rw [← HS.out, ← bools_set]
        exact HB.out.set_ j _
      have HN := Lib.hid hnext
      have HU2 : Hid (Upd [] w (wr.setCell ⟨G, j, none⟩ (.bool b))) := Lib.hid (HU.out.setCell (.inr HGE.out) _)
      clear hz hb hnext HS
      rcases hzb with ⟨rfl, rfl⟩ | ⟨h0, rfl⟩
      · go_wp2_with fail
        go_roundg (n - (j + 1))
        case measure => omega
        case rel => exact ⟨j + 1, rfl, by omega, by go_num, HN, HU2⟩
      · have h1 : (z != 0) = true := by simp [h0]
        have h2 : (z == 0) = false := by simp [h0]
        go_wp2_with fail
        go_roundg (n - (j + 1))
        case measure => omega
        case rel => exact ⟨j + 1, rfl, by omega, by go_num, HN, HU2⟩
    · obtain rfl : j = n := by omega
      have hb := HB.out
      rw [← HBL.out, partB_all] at hb
      have HBB := Lib.hid hb
      clear hb
      go_wp2_with fail
      go_ret
      exact ⟨G, rfl, HBB.out, HGE.out, HU.out⟩

/-- Words that are 0. -/
theorem doc_fill (m : Nat) (D : DLay) (a c : Int) (a' c' : Nat) (n : Nat) (W K M : List Int) (T : Array Value) (w : World) (H : DRaw w m D n W K M T) (ha : a = a') (hc : c = c') (h : a' + c' ≤ W.length) (hl : W.length = n * 64) (hl2 : n ≤ 256) :
    Calls Tryz.prog 88 #[.pointer (some ⟨m, 0, none⟩), .int .i64 a, .int .i64 c] w fun e w' => e = .returned (.tuple #[]) ∧ DRaw w' m D n (filledAt W a' c') K M T ∧ Upd [D.gw] w w' := by
  subst ha hc
  rw [← spanZ_fill h]
  have HR : Hid (DRaw w m D n (spanZ W 0 a' 0) K M T) := Lib.hid (by rw [spanZ_zero]; exact H)
  have HL := Lib.hid hl
  have hb : a' + c' ≤ 16384 := by omega
  have HB := Lib.hid h
  have hb2 : a' + c' ≤ n * 64 := by omega
  clear H hl h
  go_enter Tryz.func88, Tryz.ntmps88
  go_wp2_with fail
  go_loopg [6] c' (fun gk i wr => ∃ j : Nat, gk = c' - j ∧ j ≤ c' ∧ i = .int .i64 ((a' + j : Nat) : Int) ∧ Hid (DRaw wr m D n (spanZ W 0 a' j) K M T) ∧ Hid (Upd [D.gw] w wr))
  case atStart => exact ⟨0, rfl, by omega, rfl, HR, Lib.hid (Upd.refl _ _)⟩
  case round =>
    clear HR
    obtain ⟨j, rfl, hj, rfl, HR, HU⟩ := hrel
    by_cases hlt : j < c'
    · obtain ⟨c0, c1, c2, c3⟩ := HR.out.cells
      have h4 := HR.out.wAt (p := a' + j) (by rw [spanZ_len, HL.out]; omega)
      have c4 := h4.1
      have c5 := h4.2
      have hn := HR.out.setW (a' + j) 0
      rw [spanZ_succ] at hn
      have HN := Lib.hid hn
      have HU2 : Hid (Upd [D.gw] w (wr.setCell ⟨D.gw, a' + j, none⟩ (.int .i64 0))) := Lib.hid (HU.out.setCell (.inl (by simp)) _)
      have hji : (a' + j : Nat) < n * 64 := by omega
      clear h4 hn
      go_wp2_with fail
      go_roundg (c' - (j + 1))
      case measure => omega
      case rel => exact ⟨j + 1, rfl, by omega, by go_num, HN, HU2⟩
    · obtain rfl : j = c' := by omega
      go_wp2_with fail
      go_end0
      exact ⟨rfl, HR.out, HU.out⟩
end
end Go.Proofs.YtpkbdmieelgdlaaGreat
