/- WHAT A CALL MAY TURN: the relation 'Fr', and small laws on blocks and cells. -/
import Derived.Test.YtchgjjegcoiepaaDoorProg
import Derived.WalkKit
import Derived.Below
import Derived.Outline
import Derived.Defers
import Derived.Deep.QuietTactic
import Derived.BigQuiet
import Derived.Lib.Hide
import Derived.RegionTactic
import Derived.ChangeAlike
namespace Go.Proofs.YtchgjjegcoiepaaDoor
open Go.RowKit

/-- of the blocks of w those that P does not hold of are in w' as they were. -/
structure Fr (P : Nat → Prop) (w w' : World) : Prop where
  os : w'.os = w.os
  tape : w'.tape = w.tape
  output : w'.output = w.output
  size : w.heap.size ≤ w'.heap.size
  block : ∀ k, k < w.heap.size → ¬ P k → w'.heap[k]? = w.heap[k]?

abbrev No : Nat → Prop := fun _ => False
def One (b : Nat) : Nat → Prop := fun k => k = b

theorem Fr.refl {P : Nat → Prop} (w : World) : Fr P w w := ⟨rfl, rfl, rfl, Nat.le_refl _, fun _ _ _ => rfl⟩
theorem Fr.trans {P : Nat → Prop} {a b c : World} (h : Fr P a b) (k : Fr P b c) : Fr P a c :=
  ⟨k.os.trans h.os, k.tape.trans h.tape, k.output.trans h.output, Nat.le_trans h.size k.size, fun i hi hP => (k.block i (Nat.lt_of_lt_of_le hi h.size) hP).trans (h.block i hi hP)⟩
theorem Fr.mono {P Q : Nat → Prop} {w w' : World} (h : Fr P w w') (hPQ : ∀ k, k < w.heap.size → P k → Q k) : Fr Q w w' :=
  ⟨h.os, h.tape, h.output, h.size, fun k hk hQ => h.block k hk (fun hP => hQ (hPQ k hk hP))⟩
theorem Fr.no {P : Nat → Prop} {w w' : World} (h : Fr No w w') : Fr P w w' := h.mono (fun _ _ h => h.elim)
/-- what came later turns blocks that were not there at first, or that may be turned. -/
theorem Fr.then {P Q : Nat → Prop} {a b c : World} (h : Fr P a b) (k : Fr Q b c) (hQ : ∀ i, i < a.heap.size → Q i → P i) : Fr P a c :=
  ⟨k.os.trans h.os, k.tape.trans h.tape, k.output.trans h.output, Nat.le_trans h.size k.size, fun i hi hP => (k.block i (Nat.lt_of_lt_of_le hi h.size) (fun q => hP (hQ i hi q))).trans (h.block i hi hP)⟩
theorem Fr.drewN {P : Nat → Prop} {a w : World} (h : Fr P a w) (n : Nat) : Fr P a (w.drewN n) := ⟨h.os, h.tape, h.output, h.size, h.block⟩
theorem Fr.drew {P : Nat → Prop} {a w : World} (h : Fr P a w) : Fr P a w.drew := ⟨h.os, h.tape, h.output, h.size, h.block⟩
theorem Fr.alloc {P : Nat → Prop} {a w : World} (h : Fr P a w) (o : Obj) : Fr P a (w.alloc o) :=
  h.trans ⟨rfl, rfl, rfl, by simp, fun k hk _ => Below.heap_alloc _ _ _ hk⟩
theorem Fr.setCell {P : Nat → Prop} {a w : World} (h : Fr P a w) {p : Addr} (hp : P p.block ∨ a.heap.size ≤ p.block) (u : Value) : Fr P a (w.setCell p u) :=
  h.then (Q := fun k => k = p.block) ⟨rfl, rfl, rfl, by simp [World.setCell], fun k _ hP => Below.heap_setCell _ _ _ _ hP⟩
    (fun i hi e => by rcases hp with hp | hp; · exact e ▸ hp
                      · exact absurd (e ▸ hi) (by omega))
theorem Fr.set1 {a w : World} {b : Nat} (h : Fr (One b) a w) (j : Nat) (u : Value) : Fr (One b) a (w.setCell ⟨b, j, none⟩ u) := h.setCell (p := ⟨b, j, none⟩) (.inl rfl) u
theorem Fr.setNew {P : Nat → Prop} {a w : World} {b : Nat} (h : Fr P a w) (hb : a.heap.size ≤ b) (j : Nat) (u : Value) : Fr P a (w.setCell ⟨b, j, none⟩ u) := h.setCell (p := ⟨b, j, none⟩) (.inr hb) u
theorem Fr.below {P : Nat → Prop} {a b w : World} {B : Nat} (h : Fr P a b) (k : Below B b w) (hB : a.heap.size ≤ B) : Fr P a w :=
  ⟨k.os.trans h.os, k.tape.trans h.tape, k.output.trans h.output, Nat.le_trans h.size k.size, fun i hi hP => (k.block i (Nat.lt_of_lt_of_le hi hB)).trans (h.block i hi hP)⟩
theorem Fr.to_below {w w' : World} (h : Fr No w w') : Below w.heap.size w w' := ⟨h.os, h.tape, h.output, h.size, fun k hk => h.block k hk (fun f => f)⟩
theorem Fr.of_below {P : Nat → Prop} {w w' : World} (h : Below w.heap.size w w') : Fr P w w' := ⟨h.os, h.tape, h.output, h.size, fun k hk _ => h.block k hk⟩
theorem Fr.cell {P : Nat → Prop} {w w' : World} (h : Fr P w w') {p : Addr} (hp : p.block < w.heap.size) (hP : ¬ P p.block) : w'.cell? p = w.cell? p := World.cell?_of_block (w := w) (h.block p.block hp hP)
theorem Fr.frozen {P : Nat → Prop} {w w' : World} (h : Fr P w w') {p : Addr} (hp : p.block < w.heap.size) (hP : ¬ P p.block) : w'.frozen? p = w.frozen? p := World.frozen?_of_block (w := w) (h.block p.block hp hP)

/-- a block of cells, known whole. -/
theorem cell_of_block {w : World} {b : Nat} {c : Array Value} {t : TypeId} {f : Nat × Nat} (h : w.heap[b]? = some (.cells c t f)) (j : Nat) : w.cell? ⟨b, j, none⟩ = c[j]? := by
  simp [World.cell?, h]
theorem free_of_block {w : World} {b : Nat} {c : Array Value} {t : TypeId} (h : w.heap[b]? = some (.cells c t (0, 0))) (j : Nat) : w.frozen? ⟨b, j, none⟩ = false := by
  simp [World.frozen?, h]
theorem setCell_block {w : World} {b : Nat} {c : Array Value} {t : TypeId} {f : Nat × Nat} (h : w.heap[b]? = some (.cells c t f)) (j : Nat) (v : Value) :
    (w.setCell ⟨b, j, none⟩ v).heap[b]? = some (.cells (c.setIfInBounds j v) t f) := by
  simp only [World.setCell, Array.getElem?_modify, h]
  simp
theorem lt_of_block {w : World} {b : Nat} {o : Obj} (h : w.heap[b]? = some o) : b < w.heap.size := (Array.getElem?_eq_some_iff.1 h).1

/-- a variable in a block of its own. -/
def Bx (w : World) (b : Nat) (t : TypeId) (v : Value) : Prop := w.heap[b]? = some (.cells #[v] t (0, 0))
theorem Bx.c {w : World} {b : Nat} {t : TypeId} {v : Value} (h : Bx w b t v) : w.cell? ⟨b, 0, none⟩ = some v := by rw [cell_of_block h]; rfl
theorem Bx.f {w : World} {b : Nat} {t : TypeId} {v : Value} (h : Bx w b t v) : w.frozen? ⟨b, 0, none⟩ = false := free_of_block h 0
theorem Bx.lt {w : World} {b : Nat} {t : TypeId} {v : Value} (h : Bx w b t v) : b < w.heap.size := lt_of_block h
theorem Bx.fr {P : Nat → Prop} {w w' : World} {b : Nat} {t : TypeId} {v : Value} (h : Bx w b t v) (f : Fr P w w') (hb : ¬ P b) : Bx w' b t v := (f.block b h.lt hb).trans h
theorem Bx.set {w : World} {b : Nat} {t : TypeId} {v : Value} (h : Bx w b t v) (u : Value) : Bx (w.setCell ⟨b, 0, none⟩ u) b t u := by
  unfold Bx; rw [setCell_block h]; rfl
theorem Bx.other {w : World} {b : Nat} {t : TypeId} {v : Value} (h : Bx w b t v) {c : Nat} (hc : b ≠ c) (j : Nat) (u : Value) : Bx (w.setCell ⟨c, j, none⟩ u) b t v :=
  (Below.heap_setCell w ⟨c, j, none⟩ u b hc).trans h
theorem Bx.alloc {w : World} {b : Nat} {t : TypeId} {v : Value} (h : Bx w b t v) (o : Obj) : Bx (w.alloc o) b t v := (Below.heap_alloc w o b h.lt).trans h
theorem Bx.drewN {w : World} {b : Nat} {t : TypeId} {v : Value} (h : Bx w b t v) (n : Nat) : Bx (w.drewN n) b t v := h

theorem alS {V W : World} {o : Obj} (h : V.alloc o = W) {k : Nat} {o' : Obj} (hk : V.heap[k]? = some o') : W.heap[k]? = some o' :=
  h ▸ (Below.heap_alloc _ _ _ (lt_of_block hk)).trans hk
theorem alN {V W : World} {o : Obj} {n : Nat} (h : V.alloc o = W) (hn : V.heap.size = n) : W.heap[n]? = some o := by
  subst h; subst hn
  show (V.heap.push o)[V.heap.size]? = _
  simp
/-- what is known of a world with new blocks. -/
theorem al1 {w W : World} {o1 : Obj} (h : w.alloc o1 = W) :
    W.heap.size = w.heap.size + 1 ∧ W.heap[w.heap.size]? = some o1 ∧ ∀ P, Fr P w W := by
  refine ⟨by rw [← h]; simp, alN h rfl, fun _ => ?_⟩
  rw [← h]; exact (Fr.refl w).alloc _
theorem al2 {w W : World} {o1 o2 : Obj} (h : (w.alloc o1).alloc o2 = W) :
    W.heap.size = w.heap.size + 2 ∧ W.heap[w.heap.size]? = some o1 ∧ W.heap[w.heap.size + 1]? = some o2 ∧ ∀ P, Fr P w W := by
  obtain ⟨h0, h1, hF⟩ := al1 (w := w) (W := w.alloc o1) rfl
  refine ⟨by rw [← h]; simp, alS h h1, alN h h0, fun P => ?_⟩
  rw [← h]; exact (hF P).alloc _
theorem al3 {w W : World} {o1 o2 o3 : Obj} (h : ((w.alloc o1).alloc o2).alloc o3 = W) :
    W.heap.size = w.heap.size + 3 ∧ W.heap[w.heap.size]? = some o1 ∧ W.heap[w.heap.size + 1]? = some o2 ∧ W.heap[w.heap.size + 1 + 1]? = some o3 ∧ ∀ P, Fr P w W := by
  obtain ⟨h0, h1, h2, hF⟩ := al2 (w := w) (W := (w.alloc o1).alloc o2) rfl
  refine ⟨by rw [← h]; simp, alS h h1, alS h h2, alN h h0, fun P => ?_⟩
  rw [← h]; exact (hF P).alloc _
theorem al4 {w W : World} {o1 o2 o3 o4 : Obj} (h : (((w.alloc o1).alloc o2).alloc o3).alloc o4 = W) :
    W.heap.size = w.heap.size + 4 ∧ W.heap[w.heap.size]? = some o1 ∧ W.heap[w.heap.size + 1]? = some o2 ∧ W.heap[w.heap.size + 1 + 1]? = some o3 ∧ W.heap[w.heap.size + 1 + 1 + 1]? = some o4 ∧ ∀ P, Fr P w W := by
  obtain ⟨h0, h1, h2, h3, hF⟩ := al3 (w := w) (W := ((w.alloc o1).alloc o2).alloc o3) rfl
  refine ⟨by rw [← h]; simp, alS h h1, alS h h2, alS h h3, alN h h0, fun P => ?_⟩
  rw [← h]; exact (hF P).alloc _
theorem al5 {w W : World} {o1 o2 o3 o4 o5 : Obj} (h : ((((w.alloc o1).alloc o2).alloc o3).alloc o4).alloc o5 = W) :
    W.heap.size = w.heap.size + 5 ∧ W.heap[w.heap.size]? = some o1 ∧ W.heap[w.heap.size + 1]? = some o2 ∧ W.heap[w.heap.size + 1 + 1]? = some o3 ∧ W.heap[w.heap.size + 1 + 1 + 1]? = some o4 ∧ W.heap[w.heap.size + 1 + 1 + 1 + 1]? = some o5 ∧ ∀ P, Fr P w W := by
  obtain ⟨h0, h1, h2, h3, h4, hF⟩ := al4 (w := w) (W := (((w.alloc o1).alloc o2).alloc o3).alloc o4) rfl
  refine ⟨by rw [← h]; simp, alS h h1, alS h h2, alS h h3, alS h h4, alN h h0, fun P => ?_⟩
  rw [← h]; exact (hF P).alloc _
theorem al6 {w W : World} {o1 o2 o3 o4 o5 o6 : Obj} (h : (((((w.alloc o1).alloc o2).alloc o3).alloc o4).alloc o5).alloc o6 = W) :
    W.heap.size = w.heap.size + 6 ∧ W.heap[w.heap.size]? = some o1 ∧ W.heap[w.heap.size + 1]? = some o2 ∧ W.heap[w.heap.size + 1 + 1]? = some o3 ∧ W.heap[w.heap.size + 1 + 1 + 1]? = some o4 ∧ W.heap[w.heap.size + 1 + 1 + 1 + 1]? = some o5 ∧ W.heap[w.heap.size + 1 + 1 + 1 + 1 + 1]? = some o6 ∧ ∀ P, Fr P w W := by
  obtain ⟨h0, h1, h2, h3, h4, h5, hF⟩ := al5 (w := w) (W := ((((w.alloc o1).alloc o2).alloc o3).alloc o4).alloc o5) rfl
  refine ⟨by rw [← h]; simp, alS h h1, alS h h2, alS h h3, alS h h4, alS h h5, alN h h0, fun P => ?_⟩
  rw [← h]; exact (hF P).alloc _

/-- a text's byte; 0 behind its end. -/
def bAt (s : ByteArray) (i : Nat) : Nat := (s.data.toList.getD i 0).toNat
theorem bAt_lt (s : ByteArray) (i : Nat) : bAt s i < 256 := UInt8.toNat_lt _
theorem bAt_eq (s : ByteArray) (i : Nat) (h : i < s.size) : s[i].toNat = bAt s i := by
  have h' : i < s.data.toList.length := by simpa using h
  unfold bAt
  rw [List.getD, List.getElem?_eq_getElem h']
  rfl
theorem alloc_block (w : World) (o : Obj) : (w.alloc o).heap[w.heap.size]? = some o := by
  show (w.heap.push o)[w.heap.size]? = _
  simp
end Go.Proofs.YtchgjjegcoiepaaDoor
