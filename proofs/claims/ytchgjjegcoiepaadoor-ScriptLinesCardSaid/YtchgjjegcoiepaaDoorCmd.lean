import Derived.Test.YtchgjjegcoiepaaDoorMore
namespace Go.Proofs.YtchgjjegcoiepaaDoor
open Go.RowKit

/-- a block of cells of a type. -/
def Ty (w : World) (k : Nat) (t : TypeId) : Prop := ∃ c f, w.heap[k]? = some (.cells c t f)
theorem Ty.ne {w : World} {k : Nat} {t t' : TypeId} (h : Ty w k t) (h' : Ty w k t') : t = t' := by
  obtain ⟨c, f, e⟩ := h; obtain ⟨c', f', e'⟩ := h'
  rw [e] at e'; injection e' with e'; injection e'
theorem Ty.lt {w : World} {k : Nat} {t : TypeId} (h : Ty w k t) : k < w.heap.size := by obtain ⟨c, f, e⟩ := h; exact lt_of_block e
theorem Ty.fr {P : Nat → Prop} {w w' : World} {k : Nat} {t : TypeId} (h : Ty w k t) (f : Fr P w w') (hP : ¬ P k) : Ty w' k t := by
  obtain ⟨c, g, e⟩ := h; exact ⟨c, g, (f.block k (lt_of_block e) hP).trans e⟩

structure Cmd where
  L : Nat
  A : List Int

/-- a slice of numbers, read. -/
def SlI (w : World) (av : Value) (xs : List Int) : Prop :=
  ∃ A cap, av = .slice A xs.length cap ∧ (0 < xs.length → ∃ g off, A = some ⟨g, off, none⟩ ∧ Ty w g 2 ∧ ∀ j (h : j < xs.length), w.cell? ⟨g, off + j, none⟩ = some (.int .i64 xs[j]))
theorem SlI.fr {P : Nat → Prop} {w w' : World} {av : Value} {xs : List Int} (h : SlI w av xs) (f : Fr P w w') (hP : ∀ k, Ty w k 2 → ¬ P k) : SlI w' av xs := by
  obtain ⟨A, cap, rfl, h⟩ := h
  refine ⟨A, cap, rfl, fun hl => ?_⟩
  obtain ⟨g, off, rfl, ht, hc⟩ := h hl
  exact ⟨g, off, rfl, ht.fr f (hP g ht), fun j hj => (f.cell (p := ⟨g, off + j, none⟩) ht.lt (hP g ht)).trans (hc j hj)⟩
theorem SlI.of_own {w : World} {base : Nat} {sv : Value} {xs : List Int} (h : Ow w base 2 sv (i64s xs)) : SlI w sv xs := by
  obtain ⟨A, cap, rfl, _⟩ := h.form
  refine ⟨A, cap, by rw [i64s_length], fun hl => ?_⟩
  obtain ⟨g, cap', e, _, _⟩ := h.form2 (by rw [i64s_length]; exact hl)
  injection e with e1 e2 e3
  subst e1
  have hty : Ty w g 2 := by
    rcases h.2 with ⟨e, _⟩ | ⟨g', cap'', cur, e, _, hh, _⟩
    · cases e
    · injection e with e _ _; injection e with e; injection e with e _ _; subst e; exact ⟨_, _, hh⟩
  refine ⟨g, 0, rfl, hty, fun j hj => ?_⟩
  rw [Nat.zero_add, h.cell j (by rw [i64s_length]; exact hj)]
  simp [i64s]
theorem SlI.nil (w : World) : SlI w (.slice none 0 0) [] := ⟨none, 0, rfl, fun h => by simp at h⟩

/-- commands on their way: the cells of a row of them. -/
def cmC : List (Nat × Value) → List Value
  | [] => []
  | (L, v) :: r => .int .u8 (L : Nat) :: v :: cmC r
theorem cmC_length : ∀ l, (cmC l).length = l.length * 2
  | [] => rfl
  | (_, _) :: r => by simp [cmC, cmC_length r]; omega
theorem cmC_snoc : ∀ (l : List (Nat × Value)) (L : Nat) (v : Value), cmC (l ++ [(L, v)]) = cmC l ++ [.int .u8 (L : Nat), v]
  | [], _, _ => rfl
  | (_, _) :: r, L, v => by simp [cmC, cmC_snoc r L v]
/-- pairs that read as commands. -/
def Pv (w : World) (pv : List (Nat × Value)) (l : List Cmd) : Prop := pv.length = l.length ∧ ∀ j (h : j < pv.length) (h' : j < l.length), pv[j].1 = l[j].L ∧ SlI w pv[j].2 l[j].A
/-- a variable that holds commands, its own row. -/
structure Cl (w : World) (ob base : Nat) (l : List Cmd) : Prop where
  ex : ∃ (v : Value) (pv : List (Nat × Value)), Bx w ob 22 v ∧ w.ownsRow base 60 2 v l.length (cmC pv) ∧ Pv w pv l
theorem own_ty {w : World} {base e size : Nat} {v : Value} {n : Nat} {xs : List Value} (h : w.ownsRow base e size v n xs) : ∀ k, v.ownBlock = some k → Ty w k e := by
  intro k hk
  rcases h.2 with ⟨rfl, _⟩ | ⟨g, cap, cur, rfl, _, hh, _⟩
  · cases hk
  · injection hk with hk; subst hk; exact ⟨_, _, hh⟩
theorem own_fr {P : Nat → Prop} {w w' : World} {base e size : Nat} {v : Value} {n : Nat} {xs : List Value} (h : w.ownsRow base e size v n xs) (f : Fr P w w') (hP : ∀ k, Ty w k e → ¬ P k) : w'.ownsRow base e size v n xs := by
  obtain ⟨h1, h2⟩ := h
  refine ⟨h1, ?_⟩
  rcases h2 with h2 | ⟨g, cap, cur, hv, hg, hh, r⟩
  · exact Or.inl h2
  · exact Or.inr ⟨g, cap, cur, hv, hg, by rw [f.block g (lt_of_block hh) (hP g ⟨_, _, hh⟩)]; exact hh, r⟩
theorem Pv.fr {P : Nat → Prop} {w w' : World} {pv : List (Nat × Value)} {l : List Cmd} (h : Pv w pv l) (f : Fr P w w') (hP : ∀ k, Ty w k 2 → ¬ P k) : Pv w' pv l :=
  ⟨h.1, fun j a b => ⟨(h.2 j a b).1, (h.2 j a b).2.fr f hP⟩⟩
theorem Cl.fr {P : Nat → Prop} {w w' : World} {ob base : Nat} {l : List Cmd} (h : Cl w ob base l) (f : Fr P w w') (hP : ∀ k t, Ty w k t → t = 22 ∨ t = 60 ∨ t = 2 → ¬ P k) : Cl w' ob base l := by
  obtain ⟨v, pv, h1, h2, h3⟩ := h.ex
  exact ⟨v, pv, h1.fr f (hP ob 22 ⟨_, _, h1⟩ (.inl rfl)), own_fr h2 f (fun k hk => hP k 60 hk (.inr (.inl rfl))), h3.fr f (fun k hk => hP k 2 hk (.inr (.inr rfl)))⟩

theorem info60 : (Tryd.prog.info? 60).map (fun i => (i.zero, i.size, i.bytes)) = some (some (.agg #[.int .u8 0, .slice none 0 0]), 2, 32) := by kernel_rfl

set_option maxHeartbeats 1000000 in
/-- Parse's function: the group goes behind the others. -/
theorem parse1_any (ob base : Nat) (l : List Cmd) (L : Nat) (av : Value) (xs : List Int) (w : World) (h : Cl w ob base l) (hb : base ≤ w.heap.size) (hs : SlI w av xs) (hl : l.length ≤ 100000) :
    Calls Tryd.prog 34 #[.agg #[.int .u8 L, av], .pointer (some ⟨ob, 0, none⟩)] w fun e w' => e = .returned (.bool true) ∧ Cl w' ob base (l ++ [⟨L, xs⟩]) ∧ Fr (fun k => k = ob ∨ (base ≤ k ∧ Ty w k 60)) w w' := by
  obtain ⟨v, pv, h1, h2, h3⟩ := h.ex
  have c1 := h1.c
  have f1 := h1.f
  have hlt := h1.lt
  have HL := Lib.hid hl; clear hl
  obtain ⟨i0, hi, hz0, hz1, hz2⟩ := info_parts info60
  obtain ⟨A, cap, rfl⟩ : ∃ A cap, v = .slice A l.length cap := by
    rcases h2.2 with ⟨rfl, h0⟩ | ⟨g, cap, cur, rfl, _⟩
    · exact ⟨none, 0, by rw [h0]⟩
    · exact ⟨_, _, rfl⟩
  obtain ⟨A2, cap2, rfl, hs2⟩ := hs
  go_enter Tryd.func34, Tryd.ntmps34
  go_wp2_with (at_builtin; refine wpList_append_own _ rfl _ _ 22 rfl base 60 i0 (.agg #[.int .u8 0, .slice none 0 0]) 2 32 Tryd.underlying22 hi hz0 hz1 hz2 rfl (by decide) _ l.length (cmC pv) rfl (by exact (h2.alloc _).alloc _) ⟨w.heap.size + 1, 0, none⟩ 1 1 [.int .u8 L, .slice A2 xs.length cap2] rfl rfl ?c1 ?c2 ?c3 ?c4 ?c5 ?_)
  case c1 =>
    obtain ⟨_, _, a2, _⟩ := al2 (w := w) (o1 := .cells #[.int .u8 (L : Nat), .slice A2 xs.length cap2] 60) (o2 := .cells #[.int .u8 (L : Nat), .slice A2 xs.length cap2] 60) rfl
    intro j u hj
    match j, hj with
    | 0, hj => rw [show (⟨w.heap.size + 1, 0, none⟩ : Addr).add 0 = ⟨w.heap.size + 1, 0, none⟩ from rfl, cell_of_block a2 0]; exact hj
    | 1, hj => rw [show (⟨w.heap.size + 1, 0, none⟩ : Addr).add 1 = ⟨w.heap.size + 1, 1, none⟩ from rfl, cell_of_block a2 1]; exact hj
  case c2 => intro u hu; simp at hu; rcases hu with rfl | rfl <;> rfl
  case c3 => have := HL.out; unfold maxLen; omega
  case c4 => have := HL.out; omega
  case c5 => simp; omega
  intro v' w' hown hgrow _
  obtain ⟨_, a1, _, hF⟩ := al2 (w := w) (o1 := .cells #[.int .u8 (L : Nat), .slice A2 xs.length cap2] 60) (o2 := .cells #[.int .u8 (L : Nat), .slice A2 xs.length cap2] 60) rfl
  have hT := own_ty h2
  have hgr : Fr (fun k => (Value.slice A l.length cap).ownBlock = some k) w w' := (hF _).grown hgrow (fun k e => .inl e)
  have hb1 : Bx w' ob 22 (.slice A l.length cap) := h1.fr hgr (fun e => absurd ((hT ob e).ne ⟨_, _, h1⟩) (by decide))
  have hpv : Pv w' pv l := h3.fr hgr (fun k hk e => absurd ((hT k e).ne hk) (by decide))
  have hsl : SlI w' (.slice A2 xs.length cap2) xs := SlI.fr (w := w) ⟨A2, cap2, rfl, hs2⟩ hgr (fun k hk e => absurd ((hT k e).ne hk) (by decide))
  have d1 := hb1.c
  have d2 := hb1.f
  obtain ⟨A', cap', rfl⟩ : ∃ A' cap', v' = .slice A' (l.length + 1) cap' := by
    rcases hown.2 with ⟨_, h0⟩ | ⟨g, cap, cur, rfl, _⟩
    · omega
    · exact ⟨_, _, rfl⟩
  have HH := Lib.hid hown
  clear hown
  go_wp2
  go_ret
  have hset : ∀ (u : Value), Fr (One ob) w' (w'.setCell ⟨ob, 0, none⟩ u) := fun u => (Fr.refl w').set1 _ _
  refine ⟨rfl, ⟨_, pv ++ [(L, .slice A2 xs.length cap2)], hb1.set _, ?_, ?_⟩, ?_⟩
  · rw [List.length_append, cmC_snoc]
    exact own_fr HH.out (hset _) (fun k hk e => absurd (hk.ne (show Ty w' k 22 from e ▸ ⟨_, _, hb1⟩)) (by decide))
  · have hp2 := hpv.fr (hset (.slice A' (l.length + 1) cap')) (fun k hk e => absurd (hk.ne (show Ty w' k 22 from e ▸ ⟨_, _, hb1⟩)) (by decide))
    have hs3 := hsl.fr (hset (.slice A' (l.length + 1) cap')) (fun k hk e => absurd (hk.ne (show Ty w' k 22 from e ▸ ⟨_, _, hb1⟩)) (by decide))
    refine ⟨by simp [hp2.1], fun j h1 h2 => ?_⟩
    by_cases hj : j < l.length
    · have hj' : j < pv.length := by rw [hp2.1]; exact hj
      rw [List.getElem_append_left hj', List.getElem_append_left hj]
      exact hp2.2 j hj' hj
    · have e1 : j = pv.length := by have := hp2.1; simp at h1; omega
      have e2 : j = l.length := by have := hp2.1; omega
      subst e1
      rw [List.getElem_append_right (Nat.le_refl _), List.getElem_append_right (by omega)]
      simp only [Nat.sub_self, List.getElem_cons_zero, hp2.1]
      exact ⟨trivial, hs3⟩
  · exact (hgr.mono (fun k _ e => .inr ⟨(World.ownsRow.lt h2 k e).1, hT k e⟩)).setCell (p := ⟨ob, 0, none⟩) (.inl (.inl rfl)) _
end Go.Proofs.YtchgjjegcoiepaaDoor
