import Derived.Test.YtchgjjegcoiepaaDoorNumber
namespace Go.Proofs.YtchgjjegcoiepaaDoor
open Go.RowKit

def capF (c : Nat) : Nat := if 97 ≤ c ∧ c ≤ 122 then c - 32 else c
theorem capital_any (c : Nat) (w : World) (hc : c < 256) : Calls Tryd.prog 26 #[.int .u8 c] w fun e w' => e = .returned (.int .u8 (capF c)) ∧ w = w' := by
  by_cases h : 97 ≤ c ∧ c ≤ 122
  · have H : Hid (capF c = c - 32) := by unfold Hid capF; rw [if_pos h]
    go_enter Tryd.func26, Tryd.ntmps26
    go_wp2
    go_ret
    exact ⟨by rw [H.out]; go_num, rfl⟩
  · have H : Hid (capF c = c) := by unfold Hid capF; rw [if_neg h]
    have hor : (decide ((97 : Int) ≤ (c : Int)) = false) ∨ (97 ≤ c ∧ 122 < c) := by simp; omega
    clear h
    rcases hor with h | ⟨h1, h2⟩
    all_goals
      go_enter Tryd.func26, Tryd.ntmps26
      go_wp2
      go_ret
      exact ⟨by rw [H.out]; rfl, rfl⟩

def sgL : List Nat := [77, 76, 72, 86, 67, 83, 81, 84, 65, 90]
def sgA : List (List UInt8) := [[110, 110], [110, 110], [110], [110], [110, 110, 110, 110, 110, 110], [110, 110, 110, 110], [110, 110, 110, 110], [110, 110], [117, 117, 110, 103, 102, 110, 110], []]
def sgB (j : Nat) : ByteArray := ⟨(sgA.getD j []).toArray⟩
def TabSg (w : World) : Prop := ∀ j : Nat, j < 10 → w.cell? ⟨0, j * 2, none⟩ = some (.int .u8 (sgL.getD j 0 : Nat)) ∧ w.cell? ⟨0, j * 2 + 1, none⟩ = some (.string (sgB j))
theorem TabSg.fr {P : Nat → Prop} {w w' : World} (h : TabSg w) (f : Fr P w w') (h3 : 0 < w.heap.size) (hP : ¬ P 0) : TabSg w' :=
  fun j hj => ⟨(f.cell (p := ⟨0, j * 2, none⟩) h3 hP).trans (h j hj).1, (f.cell (p := ⟨0, j * 2 + 1, none⟩) h3 hP).trans (h j hj).2⟩

theorem of1_any (b c : Nat) (L : Nat) (A : ByteArray) (w : World) (h : Bx w b 5 (.int .u8 c)) (hc : c < 256) :
    Calls Tryd.prog 58 #[.agg #[.int .u8 L, .string A], .pointer (some ⟨b, 0, none⟩)] w fun e w' => e = .returned (.bool ((L : Int) == (capF c : Int))) ∧ Fr No w w' := by
  have h1 := h.c
  have hlt := h.lt
  have HC := Lib.hid (fun w => capital_any c w hc)
  have hc2 : capF c < 256 := by unfold capF; split <;> omega
  obtain ⟨C, hC⟩ : ∃ C, capF c = C := ⟨_, rfl⟩
  rw [hC] at HC hc2 ⊢
  clear hC
  go_enter Tryd.func58, Tryd.ntmps58
  go_wp2_with fail
  go_quiet ((go_at_call 26; exact Calls.quiet_of_same ((HC.out _).mono (by rintro e w' ⟨rfl, rfl⟩; exact ⟨rfl, rfl⟩))))
  go_wp2
  go_ret
  exact ⟨rfl, ((Fr.refl w).alloc _).drewN _⟩

def IdxPost (c : Nat) (w : World) (e : Ending) (w' : World) : Prop :=
  ((∃ j, j < 10 ∧ sgL.getD j 0 = capF c ∧ (∀ i, i < j → sgL.getD i 0 ≠ capF c) ∧ e = .returned (.int .i64 j)) ∨ ((∀ j, j < 10 → sgL.getD j 0 ≠ capF c) ∧ e = .returned (.int .i64 (-1)))) ∧ Fr No w w'
set_option maxHeartbeats 1000000 in
theorem idx_any (b c : Nat) (w : World) (h : Bx w b 5 (.int .u8 c)) (hb : 14 ≤ b) (hc : c < 256) (hT : TabSg w) :
    Calls Tryd.prog 57 #[.slice (some ⟨0, 0, none⟩) 10 10, .func (.func 58) #[] #[.pointer (some ⟨b, 0, none⟩)]] w (IdxPost c w) := by
  have h0 : 0 < w.heap.size := by have := h.lt; omega
  go_enter Tryd.func57, Tryd.ntmps57
  go_wp2
  go_loopg [8] 10 (fun gk u8 wx => ∃ j : Nat, j ≤ 10 ∧ u8 = .int .i64 j ∧ (∀ i, i < j → sgL.getD i 0 ≠ capF c) ∧ Fr No w wx ∧ gk = 10 - j)
  case atStart => exact ⟨0, by omega, rfl, by omega, Fr.refl w, rfl⟩
  case round =>
    obtain ⟨j, hj, rfl, hno, hf, rfl⟩ := hrel
    have HN := Lib.hid hno; clear hno
    by_cases hlt : j < 10
    · obtain ⟨g1, g2⟩ := hT.fr hf h0 id j hlt
      obtain ⟨L, hL⟩ : ∃ L, sgL.getD j 0 = L := ⟨_, rfl⟩
      rw [hL] at g1
      obtain ⟨A, hA⟩ : ∃ A, sgB j = A := ⟨_, rfl⟩
      rw [hA] at g2
      have HO := Lib.hid (of1_any b c L A wr (h.fr hf id) hc)
      have HL := Lib.hid hL
      clear hL hA
      by_cases he : L = capF c
      · have hbe : ((L : Int) == (capF c : Int)) = true := by simp [he]
        rw [hbe] at HO
        have HE := Lib.hid he
        clear he hbe
        go_wp2_with (go_at_call 58; refine HO.out.mono ?_; rintro e w' ⟨rfl, f⟩)
        go_ret
        exact ⟨.inl ⟨j, hlt, by rw [HL.out, HE.out], HN.out, rfl⟩, hf.trans f⟩
      · have hbe : ((L : Int) == (capF c : Int)) = false := by simp [he]; omega
        rw [hbe] at HO
        have HE := Lib.hid he
        clear he hbe
        go_wp2_with (go_at_call 58; refine HO.out.mono ?_; rintro e w' ⟨rfl, f⟩)
        go_roundg (10 - (j + 1))
        case measure => omega
        case rel => exact ⟨j + 1, by omega, by go_num, fun i hi => by
          by_cases h : i = j
          · subst h; rw [HL.out]; exact HE.out
          · exact HN.out i (by omega), hf.trans f, rfl⟩
    · obtain rfl : j = 10 := by omega
      go_wp2
      go_ret
      exact ⟨.inr ⟨HN.out, rfl⟩, hf⟩

/-- a letter's sign: its capital, its arguments. -/
def ofF (c : Nat) : Option (Nat × ByteArray) := ((List.range 10).find? fun j => sgL.getD j 0 == capF c).map fun j => (sgL.getD j 0, sgB j)
theorem find_first (p : Nat → Bool) (n j : Nat) (hj : j < n) (h : p j = true) (hno : ∀ i, i < j → p i = false) : (List.range n).find? p = some j := by
  rw [List.find?_eq_some_iff_getElem]
  refine ⟨h, j, by simpa using hj, by simp, fun i hi => ?_⟩
  simp [hno i hi]
theorem find_none (p : Nat → Bool) (n : Nat) (hno : ∀ i, i < n → p i = false) : (List.range n).find? p = none := by
  rw [List.find?_eq_none]
  intro x hx
  simp [hno x (by simpa using hx)]
def OfPost (c : Nat) (w : World) (e : Ending) (w' : World) : Prop :=
  (e = .returned (match ofF c with | some (L, A) => .tuple #[.agg #[.int .u8 L, .string A], .bool true] | none => .tuple #[.agg #[.int .u8 0, .string ⟨#[]⟩], .bool false])) ∧ Fr No w w'
theorem res28 {W : World} {b : Nat} {L : Int} {A : ByteArray} {t : Bool} (h : W.heap[b]? = some (.cells #[.int .u8 L, .string A] 71 (0, 0))) (a : Array Value) (h2 : a[2]?.getD undef = .pointer (some ⟨b, 0, none⟩)) (h3 : a[3]?.getD undef = .bool t) :
    (results Tryd.f28 a).run Tryd.prog W = .ok (.tuple #[.agg #[.int .u8 L, .string A], .bool t]) W := by
  have q0 := cell_of_block h 0
  have q1 := cell_of_block h 1
  simp only [List.getElem?_toArray, List.getElem?_cons_zero, List.getElem?_cons_succ] at q0 q1
  simp [results, Tryd.results28, go_sem, h2, h3, q0, q1]
theorem of_any (c : Nat) (w : World) (hw : 14 ≤ w.heap.size) (hc : c < 256) (hT : TabSg w) :
    Calls Tryd.prog 28 #[.int .u8 c] w (OfPost c w) := by
  have hmf : ∀ (fn : Fn) (first cap : Array Value) (w : World), (Instr.makeFunc fn first cap).run Tryd.prog w = .ok (.func fn first cap) w := fun _ _ _ _ => rfl
  go_enter Tryd.func28, Tryd.ntmps28
  go_wp2_with fail
  generalize hW : World.alloc (World.alloc w _) _ = W0
  obtain ⟨a0, a1, a2, hf0⟩ := al2 hW
  clear hW
  refine (idx_any w.heap.size c W0 a1 hw hc (hT.fr (hf0 No) (by omega) id)).mono ?_
  rintro e w1 ⟨hor, f1⟩
  rcases hor with ⟨j, hj, he, hno, rfl⟩ | ⟨hno, rfl⟩
  · have HOf : Hid (ofF c = some (sgL.getD j 0, sgB j)) := by
      unfold Hid ofF
      rw [find_first _ 10 j hj (by simp only [beq_iff_eq]; exact he) (fun i hi => by simp only [beq_eq_false_iff_ne]; exact hno i hi)]
      rfl
    obtain ⟨g1, g2⟩ := hT.fr ((hf0 No).trans f1) (by omega) id j hj
    obtain ⟨L, hL⟩ : ∃ L, sgL.getD j 0 = L := ⟨_, rfl⟩
    rw [hL] at g1 HOf
    obtain ⟨A, hA⟩ : ∃ A, sgB j = A := ⟨_, rfl⟩
    rw [hA] at g2 HOf
    clear he hno hL hA
    have b2 : w1.heap[w.heap.size + 1]? = some (.cells #[.int .u8 0, .string ⟨#[]⟩] 71 (0, 0)) := (f1.block _ (by omega) id).trans a2
    have q0 := cell_of_block b2 0
    have q1 := cell_of_block b2 1
    have z0 := free_of_block b2 0
    have z1 := free_of_block b2 1
    simp only [List.getElem?_toArray, List.getElem?_cons_zero, List.getElem?_cons_succ] at q0 q1
    go_wp2
    have b3 : ((w1.setCell ⟨w.heap.size + 1, 0, none⟩ (.int .u8 L)).setCell ⟨w.heap.size + 1, 1, none⟩ (.string A)).heap[w.heap.size + 1]? = some (.cells #[.int .u8 L, .string A] 71 (0, 0)) := by
      rw [setCell_block (setCell_block b2 0 _) 1]; rfl
    refine bodyPost_ret (res28 b3 _ rfl rfl) rfl ?_
    exact ⟨by rw [HOf.out], ((((hf0 _).trans f1).setNew (by omega) _ _).setNew (by omega) _ _)⟩
  · have HOf : Hid (ofF c = none) := by
      unfold Hid ofF
      rw [find_none _ 10 (fun i hi => by simp only [beq_eq_false_iff_ne]; exact hno i hi)]
      rfl
    clear hno
    have b2 : w1.heap[w.heap.size + 1]? = some (.cells #[.int .u8 0, .string ⟨#[]⟩] 71 (0, 0)) := (f1.block _ (by omega) id).trans a2
    have q0 := cell_of_block b2 0
    have q1 := cell_of_block b2 1
    have z0 := free_of_block b2 0
    have z1 := free_of_block b2 1
    simp only [List.getElem?_toArray, List.getElem?_cons_zero, List.getElem?_cons_succ] at q0 q1
    go_wp2
    have b3 : ((w1.setCell ⟨w.heap.size + 1, 0, none⟩ (.int .u8 0)).setCell ⟨w.heap.size + 1, 1, none⟩ (.string ⟨#[]⟩)).heap[w.heap.size + 1]? = some (.cells #[.int .u8 0, .string ⟨#[]⟩] 71 (0, 0)) := by
      rw [setCell_block (setCell_block b2 0 _) 1]; rfl
    refine bodyPost_ret (res28 b3 _ rfl rfl) rfl ?_
    exact ⟨by rw [HOf.out], ((((hf0 _).trans f1).setNew (by omega) _ _).setNew (by omega) _ _)⟩
end Go.Proofs.YtchgjjegcoiepaaDoor
