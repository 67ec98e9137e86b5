/- Slices of numbers and of commands that came in: their blocks may be of whatever type. -/
import Derived.Test.YtchgjjegcoiepaaDoorPath
namespace Go.Proofs.YtchgjjegcoiepaaDoor
open Go.RowKit

def Bk (w : World) (g : Nat) : Prop := g < w.heap.size
theorem Bk.lt {w : World} {g : Nat} (h : Bk w g) : g < w.heap.size := h
theorem Bk.fr {P : Nat → Prop} {w w' : World} {g : Nat} (h : Bk w g) (f : Fr P w w') (_ : ¬ P g) : Bk w' g := Nat.lt_of_lt_of_le h f.size
def SlIa (w : World) (av : Value) (xs : List Int) : Prop :=
  ∃ A cap, av = .slice A xs.length cap ∧ (0 < xs.length → ∃ g off, A = some ⟨g, off, none⟩ ∧ Bk w g ∧ ∀ j (h : j < xs.length), w.cell? ⟨g, off + j, none⟩ = some (.int .i64 xs[j]))
theorem SlIa.fr {P : Nat → Prop} {w w' : World} {av : Value} {xs : List Int} (h : SlIa w av xs) (f : Fr P w w') (hP : ∀ k, Bk w k → ¬ P k) : SlIa w' av xs := by
  obtain ⟨A, cap, rfl, h⟩ := h
  refine ⟨A, cap, rfl, fun hl => ?_⟩
  obtain ⟨g, off, rfl, ht, hc⟩ := h hl
  exact ⟨g, off, rfl, ht.fr f (hP g ht), fun j hj => (f.cell (p := ⟨g, off + j, none⟩) ht.lt (hP g ht)).trans (hc j hj)⟩
theorem SlI.weak {w : World} {av : Value} {xs : List Int} (h : SlI w av xs) : SlIa w av xs := by
  obtain ⟨A, cap, e, h⟩ := h
  refine ⟨A, cap, e, fun hl => ?_⟩
  obtain ⟨g, off, e, ht, hc⟩ := h hl
  exact ⟨g, off, e, ht.lt, hc⟩
def SlCa (w : World) (v : Value) (l : List Cmd) : Prop :=
  ∃ A cap, v = .slice A l.length cap ∧ (0 < l.length → ∃ g off, A = some ⟨g, off, none⟩ ∧ Bk w g ∧ ∀ j (h : j < l.length), w.cell? ⟨g, off + j * 2, none⟩ = some (.int .u8 l[j].L) ∧ ∃ av, w.cell? ⟨g, off + j * 2 + 1, none⟩ = some av ∧ SlIa w av l[j].A)
theorem SlCa.fr {P : Nat → Prop} {w w' : World} {v : Value} {l : List Cmd} (h : SlCa w v l) (f : Fr P w w') (hP : ∀ k (_ : Nat), Bk w k → True → ¬ P k) : SlCa w' v l := by
  obtain ⟨A, cap, rfl, h⟩ := h
  refine ⟨A, cap, rfl, fun hl => ?_⟩
  obtain ⟨g, off, rfl, ht, hc⟩ := h hl
  have hg := hP g 0 ht trivial
  refine ⟨g, off, rfl, ht.fr f hg, fun j hj => ?_⟩
  obtain ⟨c1, av, c2, c3⟩ := hc j hj
  exact ⟨(f.cell (p := ⟨g, off + j * 2, none⟩) ht.lt hg).trans c1, av, (f.cell (p := ⟨g, off + j * 2 + 1, none⟩) ht.lt hg).trans c2, c3.fr f (fun k hk => hP k 0 hk trivial)⟩
theorem SlC.weak {w : World} {v : Value} {l : List Cmd} (h : SlC w v l) : SlCa w v l := by
  obtain ⟨A, cap, e, h⟩ := h
  refine ⟨A, cap, e, fun hl => ?_⟩
  obtain ⟨g, off, e, ht, hc⟩ := h hl
  refine ⟨g, off, e, ht.lt, fun j hj => ?_⟩
  obtain ⟨c1, av, c2, c3⟩ := hc j hj
  exact ⟨c1, av, c2, c3.weak⟩
end Go.Proofs.YtchgjjegcoiepaaDoor
