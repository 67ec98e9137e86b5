/- The rows' condition and arguments, opened: tables, lists of commands. -/
import Derived.Test.YtchgjjegcoiepaaDoorArg
import Derived.Test.YtchgjjegcoiepaaDoorApp
import Derived.Test.YtchgjjegcoiepaaDoorLaid
import Derived.Deep.Slices
import Derived.ProofKit
import Derived.LaidMore
import Derived.Stop.Joined
import Derived.Carry
import Derived.ChangeSame
namespace Go.Proofs.YtchgjjegcoiepaaDoor
open Go.ChangeShapes Go.WideShapes Go.ChangeAt Go.WideElems Go.RowKit

theorem own : ownKnob Tryd.prog.godebug = none := by kernel_rfl
theorem laidOut : laidOutB Tryd.prog = true := by kernel_rfl

/-- the tables, out of the condition. -/
theorem tabs_of_laid {W : World} (h : laidMetH Tryd.prog Rows.pathPrintsRow.laid W) : Tabs W ∧ TabP W := by
  rw [MakeChecks.laidMetH_plain _ _ _ (by kernel_rfl)] at h
  have v0 := cells_of_met h (name := "pointillist/path.signs") (d := Rows.laid_pointillist_path_signs) (g := 0) (t := 104) 4 (out := (List.range 10).flatMap fun j => [.int .u8 (sgL.getD j 0 : Nat), .string (sgB j)]) (by kernel_rfl) (by kernel_rfl) (by simp [Rows.pathPrintsRow]) (by kernel_rfl)
  have v3 := cells_of_met h (name := "pointillist/scan.blanks") (d := Rows.laid_pointillist_scan_blanks) (g := 3) (t := 142) 4 (out := (List.range 33).map fun j => .int .i64 (if isBl j then 1 else 0)) (by kernel_rfl) (by kernel_rfl) (by simp [Rows.pathPrintsRow]) (by kernel_rfl)
  have v5 := cells_of_met h (name := "internal/strconv.uint64pow10") (d := Rows.laid_internal_strconv_uint64pow10) (g := 5) (t := 181) 4 (out := Lib.pow10Tab.map fun z => .int .u64 z) (by kernel_rfl) (by kernel_rfl) (by simp [Rows.pathPrintsRow]) (by kernel_rfl)
  have v6 := cells_of_met h (name := "pointillist/dec.next") (d := Rows.laid_pointillist_dec_next) (g := 6) (t := 194) 4 (out := nxtL.map fun n => .int .i64 (n : Nat)) (by kernel_rfl) (by kernel_rfl) (by simp [Rows.pathPrintsRow]) (by kernel_rfl)
  have v7 := cells_of_met h (name := "pointillist/dec.ends") (d := Rows.laid_pointillist_dec_ends) (g := 7) (t := 195) 4 (out := endL.map fun n => .int .i64 (n : Nat)) (by kernel_rfl) (by kernel_rfl) (by simp [Rows.pathPrintsRow]) (by kernel_rfl)
  have v13 := cells_of_met h (name := "math/bits.deBruijn64tab") (d := Rows.laid_math_bits_deBruijn64tab) (g := 13) (t := 207) 4 (out := .int .u8 0 :: ([1, 56, 2, 57, 49, 28, 3, 61, 58, 42, 50, 38, 29, 17, 4, 62, 47, 59, 36, 45, 43, 51, 22, 53, 39, 33, 30, 24, 18, 12, 5, 63, 55, 48, 27, 60, 41, 37, 16, 46, 35, 44, 21, 52, 32, 23, 11, 54, 26, 40, 15, 34, 20, 31, 10, 25, 14, 19, 9, 13, 8, 7, 6] : List Int).map fun z => .int .u8 z) (by kernel_rfl) (by kernel_rfl) (by simp [Rows.pathPrintsRow]) (by kernel_rfl)
  have c0 := cell_of_var (g := 0) (by kernel_rfl) v0
  have c3 := cell_of_var (g := 3) (by kernel_rfl) v3
  have c6 := cell_of_var (g := 6) (by kernel_rfl) v6
  have c7 := cell_of_var (g := 7) (by kernel_rfl) v7
  have c13 := cell_of_var (g := 13) (by kernel_rfl) v13 0
  refine ⟨⟨?_, ⟨?_, ?_⟩, ?_, ?_⟩, v5⟩
  · intro j hj
    rw [c3 j]; simp [hj]
  · intro j hj
    rw [c6 j, List.getElem?_map, List.getD]
    rw [List.getElem?_eq_getElem (show j < nxtL.length from hj)]; rfl
  · intro j hj
    rw [c7 j, List.getElem?_map, List.getD]
    rw [List.getElem?_eq_getElem (show j < endL.length from hj)]; rfl
  · intro j hj
    rw [c0, c0]
    rcases j with _ | _ | _ | _ | _ | _ | _ | _ | _ | _ | j
    all_goals first | exact ⟨rfl, rfl⟩ | omega
  · have : (⟨13, 0, none⟩ : Addr).block < W.heap.size := by
      rcases Nat.lt_or_ge 13 W.heap.size with h' | h'
      · exact h'
      · simp [World.cell?, Array.getElem?_eq_none h'] at c13
    exact this

theorem spot_none {w : World} {a : Addr} {v : Value} (h : w.cell? a = some v) : a.spot = none ∧ a.block < w.heap.size := by
  unfold World.cell? at h
  split at h
  · rename_i e
    split at h
    · cases h
    · rename_i hs
      exact ⟨by simpa using hs, lt_of_block e⟩
  · cases h
theorem two_of {α : Type} : ∀ {l : List α}, l.length = 2 → ∃ a b, l = [a, b]
  | [a, b], _ => ⟨a, b, rfl⟩
theorem choose_list {α : Type} {Q : Nat → α → Prop} : ∀ n, (∀ i, i < n → ∃ c, Q i c) → ∃ l : List α, l.length = n ∧ ∀ i (h : i < l.length), Q i l[i]
  | 0, _ => ⟨[], rfl, fun i h => by simp at h⟩
  | n + 1, h => by
    obtain ⟨l, h1, h2⟩ := choose_list n (fun i hi => h i (by omega))
    obtain ⟨c, hc⟩ := h n (by omega)
    refine ⟨l ++ [c], by simp [h1], fun i hi => ?_⟩
    by_cases hl : i < l.length
    · rw [List.getElem_append_left hl]; exact h2 i hl
    · have : i = n := by simp at hi; omega
      subst this
      rw [List.getElem_append_right (by omega)]
      simp only [h1, Nat.sub_self, List.getElem_cons_zero]
      exact hc
section
variable {H : Type} {enc : TypeId × Value → H} {w : World} {base : Nat} {sp : Nat → Bool} {held : Bool}
theorem open_nums {fuel : Nat} {v : Value} {y : DataW H × List MemPlace} (h : DataW.trod enc Tryd.prog w base sp held fuel 58 [v] = some y) : ∃ xs, SlIa w v xs := by
  rcases open_ints Tryd.underlying58 Tryd.underlying2 (by kernel_rfl) h with ⟨hcs, _⟩ | ⟨a, len, cap, zs, hcs, _, hl, _, hz, _, hc, _⟩
  · obtain rfl : v = .slice none 0 0 := by injection hcs
    exact ⟨[], none, 0, rfl, fun h => by simp at h⟩
  · obtain rfl : v = .slice (some a) len cap := by injection hcs
    have hzl : len ≤ zs.length := by rw [hz]; split <;> omega
    have hxl : (zs.take len).length = len := by rw [List.length_take]; omega
    refine ⟨zs.take len, some a, cap, by rw [hxl], fun h0 => ?_⟩
    rw [hxl] at h0
    have c0 := hc 0 (by omega)
    have e0 : a.add 0 = a := by simp [Addr.add]
    rw [e0] at c0
    obtain ⟨s1, s2⟩ := spot_none c0
    obtain ⟨g, off, s⟩ := a
    dsimp only at s1 s2
    subst s1
    refine ⟨g, off, rfl, s2, fun j hj => ?_⟩
    rw [hxl] at hj
    have := hc j (by omega)
    rw [add_addr] at this
    rw [this, List.getElem_take, List.getD, List.getElem?_eq_getElem (by omega)]; rfl
theorem open_cmds {fuel : Nat} {v : Value} {y : DataW H × List MemPlace} (h : DataW.trod enc Tryd.prog w base sp held fuel 22 [v] = some y) : ∃ l, SlCa w v l ∧ ∀ c ∈ l, c.L < 256 := by
  rcases Go.Deep.open_slice Tryd.underlying22 h with ⟨hcs, _⟩ | ⟨a, len, cap, m, n, D, Pl, hcs, _, hl, _, hm, _, hi⟩
  · obtain rfl : v = .slice none 0 0 := by injection hcs
    exact ⟨[], ⟨none, 0, rfl, fun h => by simp at h⟩, by simp⟩
  · obtain rfl : v = .slice (some a) len cap := by injection hcs
    have c60 : Tryd.prog.cellsOf 60 = 2 := by kernel_rfl
    have c5 : Tryd.prog.cellsOf 5 = 1 := by kernel_rfl
    have c58 : Tryd.prog.cellsOf 58 = 1 := by kernel_rfl
    have hlm : len ≤ m := by rw [hm]; split <;> omega
    have each : ∀ i, i < len → ∃ c : Cmd, c.L < 256 ∧ w.cell? (a.add (i * 2)) = some (.int .u8 c.L) ∧ ∃ av, w.cell? ((a.add (i * 2)).add 1) = some av ∧ SlIa w av c.A := by
      intro i hil
      obtain ⟨cs', hc, ht⟩ := hi i (by omega)
      rw [c60] at hc
      obtain ⟨_, hcl, hat⟩ := World.cells?_some hc
      obtain ⟨ys, n', _, _, hlen, hyl, hf⟩ := DataW.trod_struct Tryd.underlying60 ht
      have f0 : DataW.trod enc Tryd.prog w base sp held n' 5 ((cs'.drop 0).take (Tryd.prog.cellsOf 5)) = ys[0]? := hf 0 _ rfl
      have f1 : DataW.trod enc Tryd.prog w base sp held n' 58 ((cs'.drop 1).take (Tryd.prog.cellsOf 58)) = ys[1]? := hf 1 _ rfl
      rw [c5] at f0
      rw [c58] at f1
      obtain ⟨x0, x1, rfl⟩ := two_of hcl
      have hy0 : 0 < ys.length := by rw [hyl]; decide
      have hy1 : 1 < ys.length := by rw [hyl]; decide
      rw [List.getElem?_eq_getElem hy0] at f0
      rw [List.getElem?_eq_getElem hy1] at f1
      obtain ⟨z, e1, _, hw⟩ := DataW.trod_int Tryd.underlying5 f0
      obtain ⟨xs, hxs⟩ := open_nums f1
      have a0 := hat 0 (by omega)
      have a1 := hat 1 (by omega)
      have e0 : ∀ q : Addr, q.add 0 = q := fun q => by simp [Addr.add]
      rw [e0] at a0
      simp at e1
      subst e1
      simp only [Lit.wf, Bool.and_eq_true, decide_eq_true_eq] at hw
      have hz : 0 ≤ z ∧ z < 256 := by
        have : IntKind.u8.min = 0 := rfl
        have : IntKind.u8.max = 255 := rfl
        omega
      refine ⟨⟨z.toNat, xs⟩, by show z.toNat < 256; omega, ?_, x1, a1, hxs⟩
      have ez : ((z.toNat : Nat) : Int) = z := Int.toNat_of_nonneg hz.1
      show w.cell? (a.add (i * 2)) = some (Value.int .u8 ((z.toNat : Nat) : Int))
      rw [ez]
      exact a0
    obtain ⟨l, hll, hl2⟩ := choose_list len each
    refine ⟨l, ⟨some a, cap, by rw [hll], fun h0 => ?_⟩, fun c hc => ?_⟩
    · rw [hll] at h0
      have c0 := (hl2 0 (by omega)).2.1
      have e0 : a.add (0 * 2) = a := by simp [Addr.add]
      rw [e0] at c0
      obtain ⟨s1, s2⟩ := spot_none c0
      obtain ⟨g, off, s⟩ := a
      dsimp only at s1 s2
      subst s1
      refine ⟨g, off, rfl, s2, fun j hj => ?_⟩
      obtain ⟨_, k1, av, k2, k3⟩ := hl2 j hj
      rw [add_addr] at k1
      rw [add_addr, add_addr] at k2
      exact ⟨k1, av, k2, k3⟩
    · obtain ⟨j, hj, rfl⟩ := List.getElem_of_mem hc
      exact (hl2 j hj).1
end

end Go.Proofs.YtchgjjegcoiepaaDoor
