/- append of a slice that came in, onto a slice of the call's own; commands as a source. -/
import Derived.Test.YtchgjjegcoiepaaDoorGreat
import Derived.Maps.AppendAt
namespace Go.Proofs.YtchgjjegcoiepaaDoor
open Go.RowKit

def Pva (w : World) (pv : List (Nat × Value)) (l : List Cmd) : Prop := pv.length = l.length ∧ ∀ j (h : j < pv.length) (h' : j < l.length), pv[j].1 = l[j].L ∧ SlIa w pv[j].2 l[j].A
theorem Pva.fr {P : Nat → Prop} {w w' : World} {pv : List (Nat × Value)} {l : List Cmd} (h : Pva w pv l) (f : Fr P w w') (hP : ∀ k, Bk w k → ¬ P k) : Pva w' pv l :=
  ⟨h.1, fun j a b => ⟨(h.2 j a b).1, (h.2 j a b).2.fr f hP⟩⟩
/-- the cells that a slice value shows, nil let in. -/
def Src (w : World) (A : Option Addr) (m size : Nat) (news : List Value) : Prop := news.length = m * size ∧ (0 < m → ∃ ad, A = some ad ∧ ∀ j u, news[j]? = some u → w.cell? (ad.add j) = some u)
theorem own_form {w : World} {base e size : Nat} {v : Value} {n : Nat} {xs : List Value} (h : w.ownsRow base e size v n xs) : ∃ A cap, v = .slice A n cap := by
  rcases h.2 with ⟨rfl, rfl⟩ | ⟨g, cap, cur, rfl, _⟩
  · exact ⟨none, 0, rfl⟩
  · exact ⟨_, cap, rfl⟩
theorem run_app_src {P : Program} (w : World) (base : Nat) (t ty e : TypeId) (z : Value) (size bytes : Nat) (ht : P.underlying t = some (.slice e)) (hi : (P.info? e).map (fun i => (i.zero, i.size, i.bytes)) = some (some z, size, bytes))
    (hzs : z.cells.size = size) (hsz : 0 < size) (v : Value) (n : Nat) (xs : List Value) (hown : w.ownsRow base e size v n xs) (A : Option Addr) (m c : Nat) (news : List Value) (hr : Src w A m size news) (h1 : ∀ u ∈ news, u.oneCell' = true)
    (h63 : n + m ≤ 140737488355328) (hbytes : (n + m) * bytes ≤ 140737488355328) (hbase : base ≤ w.heap.size) :
    ∃ A' cap' w', (Builtin.append_ #[t, t] ty #[v, .slice A m c]).run P w = .ok (.slice A' (n + m) cap') w' ∧ w'.ownsRow base e size (.slice A' (n + m) cap') (n + m) (xs ++ news) ∧ Fr (fun k => base ≤ k) w w' := by
  obtain ⟨i0, hi0, hz0, hz1, hz2⟩ := info_parts hi
  rcases Nat.eq_zero_or_pos m with h0 | h0
  · subst h0
    have hn : news = [] := List.eq_nil_of_length_eq_zero (by simpa using hr.1)
    subst hn
    obtain ⟨A0, cap0, rfl⟩ := own_form hown
    rcases A with _ | ad
    · refine ⟨A0, cap0, w, ?_, by simpa using hown, Fr.refl w⟩
      rcases hown.2 with ⟨e1, rfl⟩ | ⟨g, cap, cur, e1, _, _, hnc, _⟩
      · injection e1 with e1 _ e3
        subst e1; subst e3
        simp [Builtin.append_, run_underlying ht, sizeOf, typeInfo, hi0, Builtin.lenOf, Builtin.firstCells]
      · injection e1 with e1 _ e3
        subst e1; subst e3
        simp [Builtin.append_, run_underlying ht, sizeOf, typeInfo, hi0, Builtin.lenOf, Builtin.firstCells, hnc, storeCells]
    · obtain ⟨v', w', hrun, h2, h3, _, _⟩ := run_append_own_at (P := P) w base t ty e i0 z size bytes ht hi0 hz0 hz1 hz2 hzs hsz _ n xs hown ad 0 c [] (by simp) (by simp) (by simp) (by unfold maxLen; omega) hbytes hbase
      obtain ⟨A', cap', rfl⟩ := own_form h2
      exact ⟨A', cap', w', hrun, h2, (Fr.refl w).grown h3 (fun k e => .inl (World.ownsRow.lt hown k e).1)⟩
  · obtain ⟨ad, rfl, hc⟩ := hr.2 h0
    obtain ⟨v', w', hrun, h2, h3, _, _⟩ := run_append_own_at (P := P) w base t ty e i0 z size bytes ht hi0 hz0 hz1 hz2 hzs hsz v n xs hown ad m c news hr.1 hc h1 (by unfold maxLen; omega) hbytes hbase
    obtain ⟨A', cap', rfl⟩ := own_form h2
    exact ⟨A', cap', w', hrun, h2, (Fr.refl w).grown h3 (fun k e => .inl (World.ownsRow.lt hown k e).1)⟩
theorem wpList_app_src {P : Program} {ops : Array Oper} {rest : List Oper} {o : Oper} {a : Act} {Q : Exit → Act → World → Prop} {w : World} (hw : Region.wanted o (yielded ops a.tmps) = true) (s x : Operand) (t : TypeId)
    (ho : o.op = .call { callee := .builtin .append, args := #[s, x], argTypes := #[t, t] }) (base : Nat) (e : TypeId) (z : Value) (size bytes : Nat) (ht : P.underlying t = some (.slice e))
    (hi : (P.info? e).map (fun i => (i.zero, i.size, i.bytes)) = some (some z, size, bytes)) (hzs : z.cells.size = size) (hsz : 0 < size) (v : Value) (n : Nat) (xs : List Value) (hs : a.eval s = v) (hown : w.ownsRow base e size v n xs)
    (A : Option Addr) (m c : Nat) (news : List Value) (hx : a.eval x = .slice A m c) (hr : Src w A m size news) (h1 : ∀ u ∈ news, u.oneCell' = true) (h63 : n + m ≤ 140737488355328) (hbytes : (n + m) * bytes ≤ 140737488355328) (hbase : base ≤ w.heap.size)
    (h : ∀ A' cap' w', w'.ownsRow base e size (.slice A' (n + m) cap') (n + m) (xs ++ news) → Fr (fun k => base ≤ k) w w' → wpList P ops Q rest (a.put o.dst (.slice A' (n + m) cap')) w') : wpList P ops Q (o :: rest) a w := by
  refine BigFrame.wpList_want hw fun K hK => ?_
  obtain ⟨A', cap', w', hrun, h2, h3⟩ := run_app_src (P := P) w base t o.type e z size bytes ht hi hzs hsz v n xs hown A m c news hr h1 h63 hbytes hbase
  unfold Oper.wp execOp
  simp only [ho, resolve, invoke, builtin, Sem.run_bind, Sem.run_pure, Result.andThen_ok, List.map_toArray, List.map_cons, List.map_nil, hs, hx, hrun]
  exact hK _ _ (h A' cap' w' h2 h3)

theorem add_addr (g off k : Nat) : (⟨g, off, none⟩ : Addr).add k = ⟨g, off + k, none⟩ := by
  simp only [Addr.add]; split
  · rename_i h; rw [h]; rfl
  · rfl
theorem cmC_one : ∀ (pv : List (Nat × Value)), (∀ p ∈ pv, p.2.oneCell' = true) → ∀ u ∈ cmC pv, u.oneCell' = true
  | [], _, u, hu => by simp [cmC] at hu
  | (L, v) :: r, h, u, hu => by
    simp only [cmC, List.mem_cons] at hu
    rcases hu with rfl | rfl | hu
    · rfl
    · exact h (L, u) (by simp)
    · exact cmC_one r (fun p hp => h p (by simp [hp])) u hu
theorem Pva.one {w : World} {pv : List (Nat × Value)} {l : List Cmd} (h : Pva w pv l) : ∀ u ∈ cmC pv, u.oneCell' = true := by
  refine cmC_one pv (fun p hp => ?_)
  obtain ⟨j, hj, rfl⟩ := List.getElem_of_mem hp
  obtain ⟨A, cap, e, _⟩ := (h.2 j hj (by rw [← h.1]; exact hj)).2
  rw [e]; rfl
theorem cmC_app : ∀ a b : List (Nat × Value), cmC (a ++ b) = cmC a ++ cmC b
  | [], _ => rfl
  | (_, _) :: r, b => by simp [cmC, cmC_app r b]
/-- a slice of commands, as a source. -/
theorem SlCa.src {w : World} {A : Option Addr} {cap : Nat} {l : List Cmd} (h : SlCa w (.slice A l.length cap) l) : ∃ pv, Pva w pv l ∧ Src w A l.length 2 (cmC pv) := by
  rcases Nat.eq_zero_or_pos l.length with h0 | h0
  · obtain rfl : l = [] := List.eq_nil_of_length_eq_zero h0
    exact ⟨[], ⟨rfl, fun j h => by simp at h⟩, rfl, fun h => by simp at h⟩
  · obtain ⟨g, off, rfl, ht, hc⟩ := h.parts h0
    have hlen : ((List.range l.length).map fun j => ((l.getD j ⟨0, []⟩).L, (w.cell? ⟨g, off + j * 2 + 1, none⟩).getD undef)).length = l.length := by simp
    have hget : ∀ j (h1 : j < ((List.range l.length).map fun j => ((l.getD j ⟨0, []⟩).L, (w.cell? ⟨g, off + j * 2 + 1, none⟩).getD undef)).length), ((List.range l.length).map fun j => ((l.getD j ⟨0, []⟩).L, (w.cell? ⟨g, off + j * 2 + 1, none⟩).getD undef))[j] = ((l.getD j ⟨0, []⟩).L, (w.cell? ⟨g, off + j * 2 + 1, none⟩).getD undef) := by
      intro j h1; simp
    generalize ((List.range l.length).map fun j => ((l.getD j ⟨0, []⟩).L, (w.cell? ⟨g, off + j * 2 + 1, none⟩).getD undef)) = pv at hlen hget
    have hgd : ∀ j (h : j < l.length), l.getD j ⟨0, []⟩ = l[j] := by
      intro j hj; rw [List.getD, List.getElem?_eq_getElem hj]; rfl
    refine ⟨pv, ⟨hlen, fun j h1 h2 => ?_⟩, by rw [cmC_length, hlen], fun _ => ⟨_, rfl, fun k u hu => ?_⟩⟩
    · rw [hget j h1, hgd j h2]
      obtain ⟨_, A2, cap2, c2, c3⟩ := hc j h2
      refine ⟨rfl, ?_⟩
      dsimp only
      rw [c2]; exact c3
    · have hk : k < (cmC pv).length := (List.getElem?_eq_some_iff.1 hu).1
      rw [cmC_length, hlen] at hk
      have hj : k / 2 < l.length := by omega
      obtain ⟨e1, e2⟩ := cmC_get pv (k / 2) (by rw [hlen]; exact hj)
      obtain ⟨c1, A2, cap2, c2, _⟩ := hc (k / 2) hj
      rw [add_addr]
      rw [hget _ (by rw [hlen]; exact hj), hgd _ hj] at e1 e2
      rcases Nat.mod_two_eq_zero_or_one k with hm | hm
      · have : k = k / 2 * 2 := by omega
        rw [← this] at e1 c1
        rw [e1] at hu
        injection hu with hu
        subst hu
        exact c1
      · have : k = k / 2 * 2 + 1 := by omega
        rw [← this] at e2
        rw [show off + k = off + k / 2 * 2 + 1 from by omega]
        rw [e2] at hu
        injection hu with hu
        subst hu
        dsimp only
        rw [c2]; rfl
/-- commands in a row of the call's own. -/
theorem SlCa.of_own {w : World} {base : Nat} {v : Value} {pv : List (Nat × Value)} {l : List Cmd} (h2 : w.ownsRow base 60 2 v l.length (cmC pv)) (h3 : Pva w pv l) : SlCa w v l := by
  rcases h2.2 with ⟨rfl, h0⟩ | ⟨g, cap, cur, rfl, _, hh, _⟩
  · exact ⟨none, 0, by rw [h0], fun h => by omega⟩
  · refine ⟨_, cap, rfl, fun hl => ⟨g, 0, rfl, lt_of_block hh, fun j hj => ?_⟩⟩
    have hjp : j < pv.length := by rw [h3.1]; exact hj
    obtain ⟨c1, c2⟩ := cmC_get pv j hjp
    obtain ⟨e1, e2⟩ := h3.2 j hjp hj
    have d1 := World.ownsRow.cells h2 (g := g) rfl _ _ c1
    have d2 := World.ownsRow.cells h2 (g := g) rfl _ _ c2
    rw [add_addr] at d1 d2
    rw [e1] at d1
    exact ⟨d1, _, d2, e2⟩
theorem Pva.app {w : World} {pa pb : List (Nat × Value)} {a b : List Cmd} (ha : Pva w pa a) (hb : Pva w pb b) : Pva w (pa ++ pb) (a ++ b) := by
  refine ⟨by simp [ha.1, hb.1], fun j h1 h2 => ?_⟩
  by_cases hj : j < a.length
  · have hj' : j < pa.length := by rw [ha.1]; exact hj
    rw [List.getElem_append_left hj', List.getElem_append_left hj]
    exact ha.2 j hj' hj
  · have e := ha.1
    simp only [List.length_append] at h1 h2
    rw [List.getElem_append_right (by omega), List.getElem_append_right (by omega)]
    have := hb.2 (j - pa.length) (by omega) (by omega)
    simp only [e] at this ⊢
    exact this
theorem Src.fr {P : Nat → Prop} {w w' : World} {A : Option Addr} {m size : Nat} {news : List Value} (h : Src w A m size news) (f : Fr P w w') (hP : ∀ k, k < w.heap.size → ¬ P k) : Src w' A m size news := by
  refine ⟨h.1, fun h0 => ?_⟩
  obtain ⟨ad, e, hc⟩ := h.2 h0
  refine ⟨ad, e, fun j u hu => ?_⟩
  have hcu := hc j u hu
  have hlt : (ad.add j).block < w.heap.size := by
    rcases Nat.lt_or_ge (ad.add j).block w.heap.size with h' | h'
    · exact h'
    · simp [World.cell?, Array.getElem?_eq_none h'] at hcu
  exact (f.cell hlt (hP _ hlt)).trans hcu
end Go.Proofs.YtchgjjegcoiepaaDoor
