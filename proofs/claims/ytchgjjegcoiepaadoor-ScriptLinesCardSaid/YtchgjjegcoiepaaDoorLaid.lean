/- TABLES: what the row's condition says of a package-level variable of plain data, cell for cell. -/
import Derived.Test.YtchgjjegcoiepaaDoorRows
import Derived.OpenShut
import Derived.LaidLaws
import Derived.ChangeArms
import Derived.MakeChecks
namespace Go.Proofs.YtchgjjegcoiepaaDoor
open Go

/-- the cells that a datum of plain data lays, by its type. -/
def flatD (P : Program) : Nat → TypeId → DataW Unit → Option (List Value)
  | 0, _, _ => none
  | n + 1, t, d =>
    match P.underlying t, d with
    | some (.int k), .lit (.int _ z) => some [.int k z]
    | some .string, .lit (.string bs) => some [.string ⟨bs.toArray⟩]
    | some (.array m e), .agg ds =>
      if ds.length = m ∧ P.cellsOf t = m * P.cellsOf e then (ds.mapM (flatD P n e)).map (·.flatten) else none
    | some (.struct fs), .agg ds =>
      if ds.length = fs.size ∧ P.cellsOf t = (fs.toList.map fun f => P.cellsOf f.type).sum ∧ (fs.toList.map (·.offset)) = (List.range fs.size).map (fun i => ((fs.toList.map fun f => P.cellsOf f.type).take i).sum) then
        ((fs.toList.zip ds).mapM fun x => flatD P n x.1.type x.2).map (·.flatten) else none
    | _, _ => none

theorem mapM_get {α β : Type} {f : α → Option β} : ∀ {l : List α} {r : List β}, l.mapM f = some r → r.length = l.length ∧ ∀ (i : Nat) (h : i < l.length) (h' : i < r.length), f l[i] = some r[i]
  | [], r, h => by
    simp only [List.mapM_nil, Option.pure_def, Option.some.injEq] at h
    subst h
    exact ⟨rfl, fun i h => by simp at h⟩
  | x :: l, r, h => by
    simp only [List.mapM_cons, Option.bind_eq_bind, Option.bind_eq_some_iff, Option.pure_def, Option.some.injEq] at h
    obtain ⟨b, hb, r', hr', rfl⟩ := h
    obtain ⟨h1, h2⟩ := mapM_get hr'
    refine ⟨by simp [h1], fun i hi hi' => ?_⟩
    cases i with
    | zero => exact hb
    | succ i => exact h2 i (by simpa using hi) (by simpa using hi')

theorem pieces : ∀ (ns : List Nat) (outs : List (List Value)) (cs : List Value), outs.length = ns.length → cs.length = ns.sum → (∀ i (h : i < ns.length) (h' : i < outs.length), (cs.drop ((ns.take i).sum)).take ns[i] = outs[i]) → cs = outs.flatten
  | [], outs, cs, h1, h2, _ => by
    simp only [List.length_nil] at h1
    obtain rfl : outs = [] := List.eq_nil_of_length_eq_zero h1
    simp only [List.sum_nil] at h2
    rw [List.eq_nil_of_length_eq_zero h2]; rfl
  | n :: ns, [], cs, h1, _, _ => by simp at h1
  | n :: ns, o :: outs, cs, h1, h2, h3 => by
    have h0 := h3 0 (by simp) (by simp)
    simp only [List.take_zero, List.sum_nil, List.drop_zero, List.getElem_cons_zero] at h0
    have ih := pieces ns outs (cs.drop n) (by simpa using h1) (by rw [List.length_drop, h2, List.sum_cons]; omega) (fun i h h' => by
      have := h3 (i + 1) (by simpa using h) (by simpa using h')
      simp only [List.take_succ_cons, List.sum_cons, List.getElem_cons_succ] at this
      rw [List.drop_drop]
      exact this)
    rw [List.flatten_cons, ← ih, ← h0, List.take_append_drop]

theorem flat_of_trod {P : Program} {w : World} {base : Nat} {sp : Nat → Bool} {held : Bool} : ∀ (n : Nat) (t : TypeId) (d : DataW Unit) (out : List Value), flatD P n t d = some out → ∀ (fuel : Nat) (cs : List Value) (enc : TypeId × Value → Unit) (p : List MemPlace),
    DataW.trod enc P w base sp held fuel t cs = some (d, p) → cs = out
  | 0, t, d, out, h, _, _, _, _, _ => by simp [flatD] at h
  | n + 1, t, d, out, h, fuel, cs, enc, p, ht => by
    unfold flatD at h
    split at h
    · rename_i k k' z hu
      obtain ⟨z', rfl, e, _⟩ := DataW.trod_int hu ht
      injection e with e _
      injection e with e
      injection e with e1 e2
      subst e1; subst e2
      injection h with h
    · rename_i bs hu
      obtain ⟨s, rfl, e, _⟩ := DataW.trod_string hu ht
      injection e with e _
      injection e with e
      injection e with e
      subst e
      injection h with h
    · rename_i m e ds hu
      split at h
      · rename_i hc
        obtain ⟨outs, hm, rfl⟩ := Option.map_eq_some_iff.1 h
        obtain ⟨xs, m', _, hx, hcl, hxl, hel⟩ := DataW.trod_array hu ht
        injection hx with hx _
        injection hx with hx
        obtain ⟨ho, hg⟩ := mapM_get hm
        refine pieces (List.replicate m (P.cellsOf e)) outs cs (by rw [ho, hc.1, List.length_replicate]) (by rw [hcl, hc.2]; simp) (fun i h1 h2 => ?_)
        rw [List.length_replicate] at h1
        have e1 := hel i h1
        have hxi : i < xs.length := by omega
        rw [List.getElem?_eq_getElem hxi] at e1
        have hd : ds[i]'(by omega) = xs[i].1 := by
          subst hx; simp
        have hgi := hg i (by omega) h2
        rw [hd] at hgi
        have := flat_of_trod n e _ _ hgi m' _ enc _ e1
        rw [← this, List.getElem_replicate, List.take_replicate, Nat.min_eq_left (by omega)]
        simp
      · cases h
    · rename_i fs ds hu
      split at h
      · rename_i hc
        obtain ⟨hc1, hc2, hc3⟩ := hc
        obtain ⟨outs, hm, rfl⟩ := Option.map_eq_some_iff.1 h
        obtain ⟨xs, m', _, hx, hcl, hxl, hel⟩ := DataW.trod_struct hu ht
        injection hx with hx _
        injection hx with hx
        obtain ⟨ho, hg⟩ := mapM_get hm
        have hz : (fs.toList.zip ds).length = fs.size := by rw [List.length_zip, hc1]; simp
        rw [hz] at ho
        refine pieces (fs.toList.map fun f => P.cellsOf f.type) outs cs (by rw [ho]; simp) (by rw [hcl, hc2]) (fun i h1 h2 => ?_)
        have hif : i < fs.size := by simpa using h1
        have e1 := hel i fs[i] (Array.getElem?_eq_getElem hif)
        have hxi : i < xs.length := by omega
        rw [List.getElem?_eq_getElem hxi] at e1
        have hd : ds[i]'(by omega) = xs[i].1 := by
          subst hx; simp
        have hgi := hg i (by rw [hz]; exact hif) h2
        simp only [List.getElem_zip] at hgi
        rw [hd] at hgi
        have := flat_of_trod n _ _ _ hgi m' _ enc _ e1
        rw [← this]
        have ho2 : fs[i].offset = ((fs.toList.map fun f => P.cellsOf f.type).take i).sum := by
          have := congrArg (fun l => l[i]?) hc3
          simpa [hif] using this
        rw [ho2]
        simp
      · cases h
    · cases h

/-- a listed variable's cells. -/
theorem cells_of_laid {P : Program} {w : World} {name : String} {d : DataW Unit} {g : Nat} {t : TypeId} {n : Nat} {out : List Value} (hg : P.globalNamed name = some g) (hty : (P.globals[g]?).map (·.type) = some t) (hf : flatD P n t d = some out) :
    ∀ (laid : List (String × DataW Unit)) (ps : List MemPlace), DataW.LaidVars P w laid ps → (name, d) ∈ laid → w.var? P name = some out.toArray
  | [], _, _, h => by simp at h
  | (n', d') :: r, ps, h, hm => by
    obtain ⟨g', t', cs, fuel, p, q, hg', ht', hvar, hd, hr, _⟩ := h
    rcases List.mem_cons.1 hm with e | hm
    · injection e with e1 e2
      subst e1; subst e2
      obtain rfl := Option.some.inj (hg.symm.trans hg')
      obtain rfl := Option.some.inj (hty.symm.trans ht')
      have := flat_of_trod n t d out hf fuel _ _ p hd
      rw [hvar]
      congr 1
      rw [← this]
    · exact cells_of_laid hg hty hf r q hr hm
theorem cells_of_met {P : Program} {w : World} {laid : List (String × DataW Unit)} (h : laidMet P laid w) {name : String} {d : DataW Unit} {g : Nat} {t : TypeId} (n : Nat) {out : List Value} (hg : P.globalNamed name = some g) (hty : (P.globals[g]?).map (·.type) = some t) (hm : (name, d) ∈ laid) (hf : flatD P n t d = some out) :
    w.var? P name = some out.toArray := by
  obtain ⟨ps, h1, _⟩ := h
  exact cells_of_laid hg hty hf laid ps h1 hm
theorem cell_of_var {P : Program} {w : World} {name : String} {g : Nat} {out : List Value} (hg : P.globalNamed name = some g) (h : w.var? P name = some out.toArray) (i : Nat) : w.cell? ⟨g, i, none⟩ = out[i]? := by
  have := World.var?_cell hg h i
  simpa using this
end Go.Proofs.YtchgjjegcoiepaaDoor
