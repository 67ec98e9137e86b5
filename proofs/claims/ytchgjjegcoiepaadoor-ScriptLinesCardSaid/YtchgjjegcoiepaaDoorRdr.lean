/- script's reader: a word, a whole number, a canvas's line. -/
import Derived.Test.YtchgjjegcoiepaaDoorCut
import Derived.Test.YtchgjjegcoiepaaDoorFmt
namespace Go.Proofs.YtchgjjegcoiepaaDoor
open Go.RowKit

structure RS where
  left : ByteArray
  more : Bool
  bad : Bool
def Rq (w : World) (b : Nat) (r : RS) : Prop := w.heap[b]? = some (.cells #[.string r.left, .bool r.more, .bool r.bad] 84 (0, 0))
theorem Rq.c0 {w : World} {b : Nat} {r : RS} (h : Rq w b r) : w.cell? ⟨b, 0, none⟩ = some (.string r.left) := by rw [cell_of_block h]; rfl
theorem Rq.c1 {w : World} {b : Nat} {r : RS} (h : Rq w b r) : w.cell? ⟨b, 1, none⟩ = some (.bool r.more) := by rw [cell_of_block h]; rfl
theorem Rq.c2 {w : World} {b : Nat} {r : RS} (h : Rq w b r) : w.cell? ⟨b, 2, none⟩ = some (.bool r.bad) := by rw [cell_of_block h]; rfl
theorem Rq.fz {w : World} {b : Nat} {r : RS} (h : Rq w b r) (j : Nat) : w.frozen? ⟨b, j, none⟩ = false := free_of_block h j
theorem Rq.s0 {w : World} {b : Nat} {r : RS} (h : Rq w b r) (x : ByteArray) : Rq (w.setCell ⟨b, 0, none⟩ (.string x)) b { r with left := x } := by unfold Rq; rw [setCell_block h]; rfl
theorem Rq.s1 {w : World} {b : Nat} {r : RS} (h : Rq w b r) (x : Bool) : Rq (w.setCell ⟨b, 1, none⟩ (.bool x)) b { r with more := x } := by unfold Rq; rw [setCell_block h]; rfl
theorem Rq.s2 {w : World} {b : Nat} {r : RS} (h : Rq w b r) (x : Bool) : Rq (w.setCell ⟨b, 2, none⟩ (.bool x)) b { r with bad := x } := by unfold Rq; rw [setCell_block h]; rfl
theorem Rq.lt {w : World} {b : Nat} {r : RS} (h : Rq w b r) : b < w.heap.size := lt_of_block h
theorem Rq.fr {P : Nat → Prop} {w w' : World} {b : Nat} {r : RS} (h : Rq w b r) (f : Fr P w w') (hb : ¬ P b) : Rq w' b r := (f.block b h.lt hb).trans h

def wordF (r : RS) : ByteArray × RS := if r.more then ((cutF r.left 32).1, ⟨(cutF r.left 32).2.1, (cutF r.left 32).2.2, r.bad⟩) else (⟨#[]⟩, ⟨r.left, false, true⟩)
theorem cutF_size' (s : ByteArray) (c : UInt8) : (cutF s c).1.size ≤ s.size ∧ (cutF s c).2.1.size ≤ s.size := by
  unfold cutF
  split
  · constructor
    · simp only [ByteArray.size_extract]; omega
    · simp only [ByteArray.size_extract]; omega
  · exact ⟨Nat.le_refl _, Nat.zero_le _⟩
theorem wordF_size (r : RS) : (wordF r).1.size ≤ r.left.size ∧ (wordF r).2.left.size ≤ r.left.size := by
  unfold wordF
  have := cutF_size' r.left 32
  split
  · exact this
  · exact ⟨Nat.zero_le _, Nat.le_refl _⟩
def RsPost (b : Nat) (w : World) (v : Value) (r : RS) (e : Ending) (w' : World) : Prop := e = .returned v ∧ Rq w' b r ∧ Fr (One b) w w'

set_option maxHeartbeats 1000000 in
theorem word_any (b : Nat) (r : RS) (w : World) (h : Rq w b r) (hs : r.left.size ≤ 140737488351232) : Calls Tryd.prog 73 #[.pointer (some ⟨b, 0, none⟩)] w (RsPost b w (.string (wordF r).1) (wordF r).2) := by
  have c0 := h.c0; have c1 := h.c1; have c2 := h.c2
  have z0 := h.fz 0; have z1 := h.fz 1; have z2 := h.fz 2
  obtain ⟨left, more, bad⟩ := r
  dsimp only at c0 c1 c2 hs
  cases more with
  | false =>
    go_enter Tryd.func73, Tryd.ntmps73
    go_wp2
    go_ret
    exact ⟨rfl, h.s2 true, (Fr.refl w).set1 _ _⟩
  | true =>
    have HC := Lib.hid (fun w => cut_any left 32 w hs)
    have HW : Hid (wordF ⟨left, true, bad⟩ = ((cutF left 32).1, ⟨(cutF left 32).2.1, (cutF left 32).2.2, bad⟩)) := rfl
    rw [HW.out]
    obtain ⟨R, hR⟩ : ∃ R, cutF left 32 = R := ⟨_, rfl⟩
    rw [hR] at HC ⊢
    clear hR HW
    obtain ⟨a, rest, fnd⟩ := R
    unfold CutPost at HC
    dsimp only at HC ⊢
    go_enter Tryd.func73, Tryd.ntmps73
    go_wp2_with (go_at_call 45; refine (HC.out _).mono ?_; rintro e w1 ⟨rfl, f1⟩; have h1 := h.fr f1 id; have d0 := h1.c0; have d1 := h1.c1; have y0 := h1.fz 0; have y1 := h1.fz 1)
    go_ret
    exact ⟨rfl, (h1.s0 rest).s1 fnd, ((f1.mono (fun _ _ h => h.elim)).set1 _ _).set1 _ _⟩
end Go.Proofs.YtchgjjegcoiepaaDoor
