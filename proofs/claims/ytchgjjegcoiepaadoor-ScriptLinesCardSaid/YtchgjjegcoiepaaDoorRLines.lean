/- ref24.Lines; law24's wakes. -/
import Derived.Test.YtchgjjegcoiepaaDoorPars1
namespace Go.Proofs.YtchgjjegcoiepaaDoor
open Go.RowKit

theorem line_tx : linL (⟨#[99, 97, 110, 118, 97, 115, 32, 50, 32, 49, 10]⟩ : ByteArray).data.toList = [(⟨#[99, 97, 110, 118, 97, 115, 32, 50, 32, 49]⟩ : ByteArray).data.toList] := by kernel_rfl
theorem head_tx : headF ⟨⟨#[99, 97, 110, 118, 97, 115, 32, 50, 32, 49]⟩, true, false⟩ = (2, 1, ⟨⟨#[]⟩, false, false⟩) := by kernel_rfl

set_option maxRecDepth 100000 in
set_option maxHeartbeats 1000000 in
theorem wakes24_any (w : World) (hw : 14 ≤ w.heap.size) (hE : TabE w) (hP : TabP w) : Calls Tryd.prog 16 #[] w fun e w' => e = .returned (.bool true) ∧ Fr No w w' := by
  have H1 := Lib.hid (pars1_any ⟨#[99, 97, 110, 118, 97, 115, 32, 50, 32, 49, 10]⟩ ⟨#[99, 97, 110, 118, 97, 115, 32, 50, 32, 49]⟩ (by decide) (by decide) line_tx (by decide) (by decide) 2 1 _ head_tx rfl w hw hE hP)
  go_enter Tryd.func16, Tryd.ntmps16
  go_wp2_with (go_at_call 18; refine H1.out.mono ?_; rintro e w1 ⟨rfl, f1⟩)
  go_ret
  exact ⟨rfl, f1.alloc _⟩

/-- texts, as values. -/
def strV (l : List (List UInt8)) : List Value := l.map fun x => Value.string ⟨x.toArray⟩
theorem strV_length (l : List (List UInt8)) : (strV l).length = l.length := by simp [strV]
theorem strV_snoc (l : List (List UInt8)) (x : List UInt8) : strV (l ++ [x]) = strV l ++ [.string ⟨x.toArray⟩] := by simp [strV]
/-- a slice of texts, read. -/
def SlS (w : World) (v : Value) (l : List (List UInt8)) : Prop :=
  ∃ A cap, v = .slice A l.length cap ∧ (0 < l.length → ∃ g off, A = some ⟨g, off, none⟩ ∧ Bk w g ∧ ∀ j (h : j < l.length), w.cell? ⟨g, off + j, none⟩ = some (.string ⟨l[j].toArray⟩))
theorem SlS.fr {P : Nat → Prop} {w w' : World} {v : Value} {l : List (List UInt8)} (h : SlS w v l) (f : Fr P w w') (hP : ∀ k, Bk w k → ¬ P k) : SlS w' v l := by
  obtain ⟨A, cap, rfl, h⟩ := h
  refine ⟨A, cap, rfl, fun hl => ?_⟩
  obtain ⟨g, off, rfl, ht, hc⟩ := h hl
  exact ⟨g, off, rfl, ht.fr f (hP g ht), fun j hj => (f.cell (p := ⟨g, off + j, none⟩) ht.lt (hP g ht)).trans (hc j hj)⟩
theorem SlS.of_own {w : World} {base : Nat} {sv : Value} {l : List (List UInt8)} (h : Ow w base 9 sv (strV l)) : SlS w sv l := by
  obtain ⟨A, cap, rfl, hcap⟩ := h.form
  refine ⟨A, cap, by rw [strV_length], fun hl => ?_⟩
  obtain ⟨g, cap', e, _, _⟩ := h.form2 (by rw [strV_length]; exact hl)
  injection e with e1 e2 e3
  subst e1
  have hty : Bk w g := by
    rcases h.2 with ⟨e, _⟩ | ⟨g', cap'', cur, e, _, hh, _⟩
    · cases e
    · injection e with e _ _; injection e with e; injection e with e _ _; subst e; exact lt_of_block hh
  refine ⟨g, 0, rfl, hty, fun j hj => ?_⟩
  rw [Nat.zero_add, h.cell j (by rw [strV_length]; exact hj)]
  simp [strV]
theorem info9 : (Tryd.prog.info? 9).map (fun i => (i.zero, i.size, i.bytes)) = some (some (.string ⟨#[]⟩), 1, 16) := by kernel_rfl
theorem ext_str (s : ByteArray) (a b : Nat) : s.extract a b = ⟨((s.data.toList.take b).drop a).toArray⟩ := by
  have e : (s.extract a b).data.toList = (s.data.toList.take b).drop a := by
    rw [ByteArray.data_extract, Array.toList_extract, List.extract_eq_take_drop, List.drop_take]
  generalize s.extract a b = Y at e
  rw [← e]

def SPost (w : World) (l : List (List UInt8)) (e : Ending) (w' : World) : Prop := ∃ v, e = .returned v ∧ SlS w' v l ∧ Fr No w w'
set_option maxRecDepth 100000 in
set_option maxHeartbeats 1000000 in
theorem rlines_any (s : ByteArray) (w : World) (hs : s.size ≤ 1000000) : Calls Tryd.prog 17 #[.string s] w (SPost w (linL s.data.toList)) := by
  obtain ⟨L, hL⟩ : ∃ L, linL s.data.toList = L := ⟨_, rfl⟩
  have hlen : s.data.toList.length = s.size := by simp
  rw [hL]
  have HL := Lib.hid hL
  have HLen := Lib.hid hlen
  clear hL hlen
  go_enter Tryd.func17, Tryd.ntmps17
  go_wp2
  go_loopg [3, 4, 5] s.size (fun gk u3 u4 u5 wx => ∃ (i a : Nat) (acc : List (List UInt8)), u5 = .int .i64 i ∧ u4 = .int .i64 a ∧ a ≤ i ∧ i ≤ s.size ∧ acc.length ≤ i ∧ Ow wx w.heap.size 9 u3 (strV acc) ∧ acc ++ linA ((s.data.toList.take i).drop a) (s.data.toList.drop i) = L ∧ Fr No w wx ∧ gk = s.size - i)
  case atStart => exact ⟨0, 0, [], rfl, rfl, by omega, by omega, by simp, Ow.nil _ _ _, by simpa [linL] using HL.out, Fr.refl w, rfl⟩
  case round =>
    obtain ⟨i, a, acc, rfl, rfl, ha, hi, hacc, ho, hinv, hf, rfl⟩ := hrel
    have HI := Lib.hid hinv
    clear hinv
    have hws := hf.size
    by_cases hlt : i < s.size
    · have hstep : Hid (acc ++ linA ((s.data.toList.take i).drop a) (s[i] :: s.data.toList.drop (i + 1)) = L) := by
        have := HI.out
        rw [List.drop_eq_getElem_cons (show i < s.data.toList.length by rw [HLen.out]; exact hlt)] at this
        exact this
      by_cases h10 : s[i].toNat = 10
      · have hb : ((s[i].toNat : Int) == 10) = true := by simp [h10]
        have HN : Hid ((acc ++ [(s.data.toList.take i).drop a]) ++ linA ((s.data.toList.take (i + 1)).drop (i + 1)) (s.data.toList.drop (i + 1)) = L) := by
          have := hstep.out
          rw [linA, if_pos (UInt8.toNat_inj.1 h10)] at this
          unfold Hid
          rw [← this, show (s.data.toList.take (i + 1)).drop (i + 1) = [] from List.drop_eq_nil_of_le (by rw [List.length_take]; omega)]
          simp
        have hext := ext_str s a i
        obtain ⟨X, hX⟩ : ∃ X, (s.data.toList.take i).drop a = X := ⟨_, rfl⟩
        rw [hX] at HN hext
        have HX := Lib.hid hX
        clear hX h10
        go_wp2_with (at_builtin; refine wpList_app1 rfl _ _ 33 rfl w.heap.size 9 (.string ⟨#[]⟩) 16 Tryd.underlying33 info9 rfl _ acc.length (strV acc) (strV_length acc) (.string ⟨X.toArray⟩) rfl (by exact ho) rfl rfl (by omega) (by omega) (by omega) ?_; intro A' cap' w3 o' f')
        go_roundg (s.size - (i + 1))
        case measure => omega
        case rel => exact ⟨i + 1, i + 1, acc ++ [X], by go_num, by go_num, Nat.le_refl _, by omega, by simp; omega, by rw [strV_snoc]; exact o', HN.out, hf.then f' (fun k h1 h2 => by omega), rfl⟩
      · have hb : ((s[i].toNat : Int) == 10) = false := by simp; omega
        have HN : Hid (acc ++ linA ((s.data.toList.take (i + 1)).drop a) (s.data.toList.drop (i + 1)) = L) := by
          have := hstep.out
          rw [linA, if_neg (fun h => h10 (by rw [h]; rfl))] at this
          unfold Hid
          have hl1 : s.data.toList.length = s.size := HLen.out
          rw [← this, List.take_succ_eq_append_getElem (show i < s.data.toList.length by omega), List.drop_append_of_le_length (by rw [List.length_take, Nat.min_eq_left (by omega)]; exact ha)]
          rfl
        clear h10
        go_wp2
        go_roundg (s.size - (i + 1))
        case measure => omega
        case rel => exact ⟨i + 1, a, acc, by go_num, rfl, by omega, by omega, by omega, ho, HN.out, hf, rfl⟩
    · have hi2 : i = s.size := by omega
      have HE : Hid (acc ++ (if s.data.toList.drop a = [] then [] else [s.data.toList.drop a]) = L) := by
        have := HI.out
        have hl1 : s.data.toList.length = s.size := HLen.out
        rw [show s.data.toList.drop i = [] from List.drop_eq_nil_of_le (by omega), show s.data.toList.take i = s.data.toList from List.take_of_length_le (by omega)] at this
        exact this
      by_cases hal : a < s.size
      · have HE2 : Hid (acc ++ [s.data.toList.drop a] = L) := by
          have := HE.out
          rw [if_neg (fun h => by have := congrArg List.length h; rw [List.length_drop, HLen.out] at this; simp at this; omega)] at this
          exact this
        have hext := ext_str s a s.size
        rw [List.take_of_length_le (by rw [HLen.out]; exact Nat.le_refl _)] at hext
        obtain ⟨X, hX⟩ : ∃ X, s.data.toList.drop a = X := ⟨_, rfl⟩
        rw [hX] at HE2 hext
        clear hX
        go_wp2_with (at_builtin; refine wpList_app1 rfl _ _ 33 rfl w.heap.size 9 (.string ⟨#[]⟩) 16 Tryd.underlying33 info9 rfl _ acc.length (strV acc) (strV_length acc) (.string ⟨X.toArray⟩) rfl (by exact ho) rfl rfl (by omega) (by omega) (by omega) ?_; intro A' cap' w3 o' f')
        go_ret
        refine ⟨_, rfl, ?_, hf.then f' (fun k h1 h2 => by omega)⟩
        rw [← HE2.out]
        exact SlS.of_own (by rw [strV_snoc]; exact o')
      · have HE2 : Hid (acc = L) := by
          have := HE.out
          rw [if_pos (List.drop_eq_nil_of_le (by rw [HLen.out]; omega)), List.append_nil] at this
          exact this
        go_wp2
        go_ret
        refine ⟨_, rfl, ?_, hf⟩
        rw [← HE2.out]
        exact SlS.of_own ho
end Go.Proofs.YtchgjjegcoiepaaDoor
