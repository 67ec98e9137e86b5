/- The row ScriptLines. -/
import Derived.Test.YtchgjjegcoiepaaDoorLaw24a
import Derived.Test.YtchgjjegcoiepaaDoorRow6
import Derived.ChangeMaps5
namespace Go.Proofs.YtchgjjegcoiepaaDoor
open Go.ChangeShapes Go.WideShapes Go.ChangeAt Go.WideElems Go.RowKit

theorem trod_iface_some {H : Type} {enc : TypeId × Value → H} {P : Program} {w : World} {base : Nat} {sp : Nat → Bool} {held : Bool} {fuel : Nat} {t : TypeId} {ms : Array (String × TypeId)} {cs : List Value} {nm : String} {d : DataW H} {p : List MemPlace}
    (ht : P.underlying t = some (.interface ms)) (h : DataW.trod enc P w base sp held fuel t cs = some (.iface nm d, p)) : ∃ u v, cs = [.iface u v] := by
  cases fuel with
  | zero => simp [DataW.trod] at h
  | succ n =>
    unfold DataW.trod at h
    rw [ht] at h
    split at h <;> simp_all

/-- a listed variable that holds an interface value. -/
theorem iface_of_laid {P : Program} {w : World} {name nm : String} {d : DataW Unit} {g : Nat} {t : TypeId} {ms : Array (String × TypeId)} (hg : P.globalNamed name = some g) (hty : (P.globals[g]?).map (·.type) = some t) (ht : P.underlying t = some (.interface ms)) :
    ∀ (laid : List (String × DataW Unit)) (ps : List MemPlace), DataW.LaidVars P w laid ps → (name, .iface nm d) ∈ laid → ∃ u v, w.cell? ⟨g, 0, none⟩ = some (.iface u v)
  | [], _, _, h => by simp at h
  | (n', d') :: r, ps, h, hm => by
    obtain ⟨g', t', cs, fuel, p, q, hg', ht', hvar, hd, hr, _⟩ := h
    rcases List.mem_cons.1 hm with e | hm
    · injection e with e1 e2
      subst e1; subst e2
      obtain rfl := Option.some.inj (hg.symm.trans hg')
      obtain rfl := Option.some.inj (hty.symm.trans ht')
      obtain ⟨u, v, e⟩ := trod_iface_some ht hd
      refine ⟨u, v, ?_⟩
      have hcs : cs = ([Value.iface u v] : List Value).toArray := by rw [← e]
      rw [hcs] at hvar
      rw [cell_of_var hg hvar 0]; rfl
    · exact iface_of_laid hg hty ht r q hr hm

/-- the reader's tables, out of the condition. -/
theorem tabs24_of_laid {W : World} (h : laidMetH Tryd.prog Rows.scriptLinesRow.laid W) : 14 ≤ W.heap.size ∧ TabE W ∧ TabP W := by
  rw [MakeChecks.laidMetH_plain _ _ _ (by kernel_rfl)] at h
  have v5 := cells_of_met h (name := "internal/strconv.uint64pow10") (d := Rows.laid_internal_strconv_uint64pow10) (g := 5) (t := 181) 4 (out := Lib.pow10Tab.map fun z => .int .u64 z) (by kernel_rfl) (by kernel_rfl) (by simp [Rows.scriptLinesRow]) (by kernel_rfl)
  have v13 := cells_of_met h (name := "math/bits.deBruijn64tab") (d := Rows.laid_math_bits_deBruijn64tab) (g := 13) (t := 207) 4 (out := .int .u8 0 :: ([1, 56, 2, 57, 49, 28, 3, 61, 58, 42, 50, 38, 29, 17, 4, 62, 47, 59, 36, 45, 43, 51, 22, 53, 39, 33, 30, 24, 18, 12, 5, 63, 55, 48, 27, 60, 41, 37, 16, 46, 35, 44, 21, 52, 32, 23, 11, 54, 26, 40, 15, 34, 20, 31, 10, 25, 14, 19, 9, 13, 8, 7, 6] : List Int).map fun z => .int .u8 z) (by kernel_rfl) (by kernel_rfl) (by simp [Rows.scriptLinesRow]) (by kernel_rfl)
  have c13 := cell_of_var (g := 13) (by kernel_rfl) v13 0
  obtain ⟨ps, h1, _⟩ := h
  have e10 := iface_of_laid (w := W) (name := "strconv.ErrSyntax") (g := 10) (by kernel_rfl) (by kernel_rfl) Tryd.underlying68 Rows.scriptLinesRow.laid ps h1 (nm := "*errors.errorString") (d := .ptr (.agg [.lit (.string [105, 110, 118, 97, 108, 105, 100, 32, 115, 121, 110, 116, 97, 120])])) (by simp [Rows.scriptLinesRow, Rows.laid_strconv_ErrSyntax])
  have e11 := iface_of_laid (w := W) (name := "strconv.ErrRange") (g := 11) (by kernel_rfl) (by kernel_rfl) Tryd.underlying68 Rows.scriptLinesRow.laid ps h1 (nm := "*errors.errorString") (d := .ptr (.agg [.lit (.string [118, 97, 108, 117, 101, 32, 111, 117, 116, 32, 111, 102, 32, 114, 97, 110, 103, 101])])) (by simp [Rows.scriptLinesRow, Rows.laid_strconv_ErrRange])
  refine ⟨?_, ⟨e10, e11⟩, v5⟩
  rcases Nat.lt_or_ge 13 W.heap.size with h' | h'
  · exact h'
  · simp [World.cell?, Array.getElem?_eq_none h'] at c13

theorem door_met24 (os : Os) (args : Array Value) : laidMetH Tryd.prog Rows.scriptLinesRow.laid ((World.doorLaid Tryd.prog 123 os).forCall (fun _ _ => 0) ⟨#[], args, []⟩).memory :=
  laidMetH_of_parts3 (fuel := 8) (laidMet_of_run' 8 (by kernel_rfl) (by kernel_rfl)) (by kernel_rfl) (by kernel_rfl)

set_option maxRecDepth 100000 in
theorem scriptLines_lifted (os : Os) (started : os.Started) (H : Type) (enc : TypeId × Value → H) :
    ReturnsInHanded {} Tryd.checked os 6 .any (fun w args => (Rows.scriptLinesSpec.pre enc Tryd.prog Tryd.f6 [] false w args ∧ laidMetH Tryd.prog Rows.scriptLinesRow.laid w) ∧ sizedMet enc Tryd.prog Tryd.f6 (OpenSpec.ofChange Rows.scriptLinesSpec) false w args)
      (Rows.scriptLinesSpec.post enc Tryd.prog Tryd.f6 false true false false) := by
  refine returnsInHanded_of_change_and (C := Tryd.checked) (X := fun w _ => laidMetH Tryd.prog Rows.scriptLinesRow.laid w) (fun _ _ _ hh h => h.of_heap hh) own started (by kernel_rfl) Tryd.func6
    (ChangeSpec.witness_shaped (enc := enc) (C := Tryd.checked) (os := os) (X := fun w _ => laidMetH Tryd.prog Rows.scriptLinesRow.laid w) false (World.doorLaid Tryd.prog 123 os) #[.string ⟨#[]⟩, .int .u8 0] 8 rfl (World.shaped_of_RefB (by kernel_rfl) (by kernel_rfl)) (by kernel_rfl) (by kernel_rfl) (by kernel_rfl) (door_met24 os _)) ?_
  intro W base args ds gs before hval0 hW _ _ hL _
  have hW' := hW
  obtain ⟨p, q, hA0, hV, rfl, _, _⟩ := hW
  have hA : DataW.TrodAll enc Tryd.prog W 0 (fun _ => true) true Tryd.f6.params.toList args.toList ds p := hA0
  have hval : ∀ (j : Nat) t v, Tryd.f6.params[j]? = some t → args[j]? = some v → Value.okWide Tryd.prog W .any base t v := hval0
  rw [Tryd.params6] at hA hval
  obtain ⟨v0, v1, d0, d1, p0, p1, rfl, rfl, rfl, h0, h1⟩ := trodAll_two hA
  obtain ⟨rfl, rfl⟩ := trodVars_none hV
  obtain ⟨s, rfl, rfl, rfl, hsz⟩ := Go.ChangeMaps.open_string Tryd.underlying9 (hval 0 9 v0 rfl rfl) h0
  obtain ⟨n, rfl, rfl, rfl, hw⟩ := open_int Tryd.underlying5 (hval 1 5 v1 rfl rfl) h1
  clear hA0 hval0
  simp only [List.append_nil] at hW'
  have hwf : (Lit.int .u8 n).wf = true := hw
  simp only [Lit.wf, Bool.and_eq_true, decide_eq_true_eq] at hw
  have hz : 0 ≤ n ∧ n < 256 := by
    have : IntKind.u8.min = 0 := rfl
    have : IntKind.u8.max = 255 := rfl
    omega
  obtain ⟨m, rfl⟩ : ∃ m : Nat, n = m := ⟨n.toNat, by omega⟩
  obtain ⟨hsize, hE, hP⟩ := tabs24_of_laid hL
  refine (ScriptLines_any s m (by omega) W hsize hE hP).mono fun e W' ⟨he, hfr⟩ => ?_
  subst he
  have hb := hfr.to_below
  exact ⟨_, rfl, _, _, _, [], _, [], hW', trodAll_mk1 (shut_bool Tryd.underlying4 true), trodAll_mk2 (Go.ChangeMaps.shut_string Tryd.underlying9 hsz) (shut_int Tryd.underlying5 hwf), rfl, hb.frame _, fun h => by cases h⟩

theorem scriptLines_holds : Rows.ScriptLinesSaid :=
  OpenClaim.holds_of_wide 6 Tryd.f6 rfl rfl rfl rfl rfl rfl rfl ⟨rfl, rfl, rfl, rfl, rfl⟩ rfl rfl rfl rfl rfl (by kernel_rfl) Tryd.func6 (by kernel_rfl)
    (of_decide_eq_true (by kernel_rfl)) (by unfold Func.isWrapper; first | (rw [if_pos (by decide +kernel)]; kernel_rfl) | (rw [if_neg (by decide +kernel)]; exact ⟨rfl, rfl⟩))
    (fun os started H enc _ => scriptLines_lifted os started H enc)
end Go.Proofs.YtchgjjegcoiepaaDoor
