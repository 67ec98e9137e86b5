import Derived.Test.YtchgjjegcoiepaaDoorBase
import Derived.Maps.AppendAt
import Derived.RangeFuncBox
import Derived.WalkSmall
import Derived.OwnWalk
namespace Go.Proofs.YtchgjjegcoiepaaDoor
open Go.RowKit

/-- a slice value that the call owns, from block base on; elements of one cell. -/
def Ow (w : World) (base : Nat) (e : TypeId) (v : Value) (xs : List Value) : Prop := w.ownsRow base e 1 v xs.length xs
theorem Ow.nil (w : World) (base : Nat) (e : TypeId) : Ow w base e (.slice none 0 0) [] := World.ownsRow_nil w base e 1
theorem Ow.form {w : World} {base : Nat} {e : TypeId} {v : Value} {xs : List Value} (h : Ow w base e v xs) : ∃ A cap, v = .slice A xs.length cap ∧ xs.length ≤ cap := by
  rcases h.2 with ⟨rfl, h0⟩ | ⟨g, cap, cur, rfl, _, _, h1, _⟩
  · exact ⟨none, 0, by rw [h0], by omega⟩
  · exact ⟨_, cap, rfl, h1⟩
theorem Ow.form2 {w : World} {base : Nat} {e : TypeId} {v : Value} {xs : List Value} (h : Ow w base e v xs) (hx : 0 < xs.length) : ∃ g cap, v = .slice (some ⟨g, 0, none⟩) xs.length cap ∧ xs.length ≤ cap ∧ base ≤ g := by
  rcases h.2 with ⟨rfl, h0⟩ | ⟨g, cap, cur, rfl, hb, _, h1, _⟩
  · omega
  · exact ⟨g, cap, rfl, h1, hb⟩
theorem Ow.lt {w : World} {base : Nat} {e : TypeId} {v : Value} {xs : List Value} (h : Ow w base e v xs) : ∀ k, v.ownBlock = some k → base ≤ k ∧ k < w.heap.size := World.ownsRow.lt h
theorem Ow.fr {P : Nat → Prop} {w w' : World} {base : Nat} {e : TypeId} {v : Value} {xs : List Value} (h : Ow w base e v xs) (f : Fr P w w') (hP : ∀ k, base ≤ k → k < w.heap.size → ¬ P k) : Ow w' base e v xs := by
  obtain ⟨h1, h2⟩ := h
  refine ⟨h1, ?_⟩
  rcases h2 with h2 | ⟨g, cap, cur, hv, hg, hh, r⟩
  · exact Or.inl h2
  · exact Or.inr ⟨g, cap, cur, hv, hg, by rw [f.block g (lt_of_block hh) (hP g hg (lt_of_block hh))]; exact hh, r⟩
theorem Ow.frb {P : Nat → Prop} {w w' : World} {base : Nat} {e : TypeId} {v : Value} {xs : List Value} (h : Ow w base e v xs) (f : Fr P w w') (hP : ∀ k, P k → k < base) : Ow w' base e v xs :=
  h.fr f (fun k h1 _ h2 => by have := hP k h2; omega)
theorem Ow.set {w : World} {base : Nat} {e : TypeId} {v : Value} {xs : List Value} (h : Ow w base e v xs) {b : Nat} (hb : b < base) (j : Nat) (u : Value) : Ow (w.setCell ⟨b, j, none⟩ u) base e v xs := ownsRow_setCell_below h hb u
theorem Ow.alloc {w : World} {base : Nat} {e : TypeId} {v : Value} {xs : List Value} (h : Ow w base e v xs) (o : Obj) : Ow (w.alloc o) base e v xs := World.ownsRow.alloc h o
theorem Ow.drewN {w : World} {base : Nat} {e : TypeId} {v : Value} {xs : List Value} (h : Ow w base e v xs) (n : Nat) : Ow (w.drewN n) base e v xs := h
theorem Ow.cell {w : World} {base : Nat} {e : TypeId} {g n cap : Nat} {xs : List Value} (h : Ow w base e (.slice (some ⟨g, 0, none⟩) n cap) xs) (j : Nat) (hj : j < xs.length) : w.cell? ⟨g, j, none⟩ = some xs[j] := by
  have ha : (⟨g, 0, none⟩ : Addr).add j = ⟨g, j, none⟩ := by
    simp only [Addr.add]; split
    · rename_i h; rw [h]
    · rw [Nat.zero_add]
  have := World.ownsRow.cells h (g := g) rfl j xs[j] (List.getElem?_eq_getElem hj)
  rwa [ha] at this
/-- cut at its end. -/
theorem Ow.cut {w : World} {base : Nat} {e : TypeId} {A : Option Addr} {n cap : Nat} {xs : List Value} (h : Ow w base e (.slice A n cap) xs) (k : Nat) (hk : k ≤ xs.length) (hA : A ≠ none ∨ k = 0 ∧ cap = 0) : Ow w base e (.slice A k cap) (xs.take k) := by
  obtain ⟨h1, h2⟩ := h
  have hl : (xs.take k).length = k := by rw [List.length_take]; omega
  refine ⟨by omega, ?_⟩
  rw [hl]
  rcases h2 with ⟨hv, h0⟩ | ⟨g, cap', cur, hv, hg, hh, r1, r2, r3, r4⟩
  · injection hv with a1 a2 a3
    subst a1
    rcases hA with hA | ⟨rfl, rfl⟩
    · exact absurd rfl hA
    · exact .inl ⟨rfl, rfl⟩
  · injection hv with a1 a2 a3
    subst a1; subst a3
    refine .inr ⟨g, cap, cur, rfl, hg, hh, by omega, r2, r3, ?_⟩
    rw [← r4, List.take_take, Nat.min_eq_left (by omega), Nat.mul_one]
theorem Ow.base {w : World} {base base' : Nat} {e : TypeId} {v : Value} {xs : List Value} (h : Ow w base e v xs) (hb : base' ≤ base) : Ow w base' e v xs := by
  obtain ⟨h1, h2⟩ := h
  refine ⟨h1, ?_⟩
  rcases h2 with h2 | ⟨g, cap, cur, hv, hg, r⟩
  · exact .inl h2
  · exact .inr ⟨g, cap, cur, hv, by omega, r⟩
theorem Fr.grown {P : Nat → Prop} {a w w' : World} {row : Option Nat} (h : Fr P a w) (hg : w.grownBy w' row) (hr : ∀ k, row = some k → P k ∨ a.heap.size ≤ k) : Fr P a w' :=
  h.then (Q := fun k => some k = row) ⟨hg.os, hg.tape, hg.output, hg.size, fun k hk hP => hg.block k hk hP⟩
    (fun i hi e => by rcases hr i e.symm with h | h; · exact h
                      · omega)

/-- 'append(v, u)', u of one cell, v the call's own. -/
theorem wpList_app1 {P : Program} {ops : Array Oper} {rest : List Oper} {o : Oper} {a : Act} {Q : Exit → Act → World → Prop} {w : World} (hgd : o.guard = none) (s x : Operand) (t : TypeId)
    (ho : o.op = .call { callee := .builtin .append, args := #[s, x], argTypes := #[t, t] }) (base : Nat) (e : TypeId) (z : Value) (bytes : Nat) (ht : P.underlying t = some (.slice e))
    (hi : (P.info? e).map (fun i => (i.zero, i.size, i.bytes)) = some (some z, 1, bytes)) (hzs : z.cells.size = 1) (v : Value) (n : Nat) (xs : List Value) (hn : xs.length = n) (u : Value) (hs : a.eval s = v) (hown : Ow w base e v xs)
    (hx : a.eval x = .slice (some ⟨w.heap.size, 0, none⟩) 1 1) (hu : u.oneCell' = true) (h63 : n + 1 ≤ 140737488355328) (hbytes : (n + 1) * bytes ≤ 140737488355328) (hbase : base ≤ w.heap.size)
    (h : ∀ A cap w', Ow w' base e (.slice A (n + 1) cap) (xs ++ [u]) → Fr (fun k => base ≤ k) w w' → wpList P ops Q rest (a.put o.dst (.slice A (n + 1) cap)) w') : wpList P ops Q (o :: rest) a (w.alloc (.cells #[u] e)) := by
  subst hn
  obtain ⟨i0, hi0, hz0, hz1, hz2⟩ := info_parts hi
  refine wpList_append_own _ hgd s x t ho base e i0 z 1 bytes ht hi0 hz0 hz1 hz2 hzs (by decide) v xs.length xs hs (hown.alloc _) ⟨w.heap.size, 0, none⟩ 1 1 [u] hx rfl (cell_one_new _ _ _) (by simpa using hu) (by unfold maxLen; omega) hbytes (by simp; omega) ?_
  intro v' w' h1 h2 _
  have h1' : Ow w' base e v' (xs ++ [u]) := by unfold Ow; rw [List.length_append]; exact h1
  obtain ⟨A, cap, rfl, _⟩ := h1'.form
  rw [List.length_append] at h1' ⊢
  exact h A cap w' h1' (((Fr.refl w).alloc _).grown h2 (fun k e => .inl (hown.lt k e).1))
end Go.Proofs.YtchgjjegcoiepaaDoor
