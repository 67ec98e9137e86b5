import Derived.Test.YtchgjjegcoiepaaDoorRights
namespace Go.Proofs.YtchgjjegcoiepaaDoor
open Go.RowKit

/-- may a number be an argument of a kind? -/
def argP (k : Nat) (v : Int) : Bool := decide (-4294967296 < v ∧ v < 4294967296 ∧ (k = 117 → 0 ≤ v) ∧ (k = 103 ∨ k = 102 → v = 0 ∨ v = 1))
def rightP (L : Nat) (xs : List Int) : Bool := match ofF L with
  | none => false
  | some (_, A) => decide (xs.length = A.size ∧ ∀ j, (h : j < xs.length) → argP (bAt A j) xs[j] = true)

theorem argP_cases (k : Nat) (v : Int) :
    (argP k v = false ∧ ((decide (v ≤ -4294967296) = true) ∨
      (decide (v ≤ -4294967296) = false ∧ decide ((4294967296 : Int) ≤ v) = true) ∨
      (decide (v ≤ -4294967296) = false ∧ decide ((4294967296 : Int) ≤ v) = false ∧ ((k : Int) == 117) = true ∧ decide (v < 0) = true) ∨
      (decide (v ≤ -4294967296) = false ∧ decide ((4294967296 : Int) ≤ v) = false ∧ ((k : Int) == 117) = false ∧ ((k : Int) == 103) = true ∧ (v != 0) = true ∧ (v != 1) = true) ∨
      (decide (v ≤ -4294967296) = false ∧ decide ((4294967296 : Int) ≤ v) = false ∧ ((k : Int) == 117) = false ∧ ((k : Int) == 103) = false ∧ ((k : Int) == 102) = true ∧ (v != 0) = true ∧ (v != 1) = true))) ∨
    (argP k v = true ∧ decide (v ≤ -4294967296) = false ∧ decide ((4294967296 : Int) ≤ v) = false ∧
      ((((k : Int) == 117) = true ∧ decide (v < 0) = false ∧ ((k : Int) == 103) = false ∧ ((k : Int) == 102) = false) ∨
      (((k : Int) == 117) = false ∧ ((k : Int) == 103) = true ∧ (v != 0) = false) ∨
      (((k : Int) == 117) = false ∧ ((k : Int) == 103) = true ∧ (v != 0) = true ∧ (v != 1) = false) ∨
      (((k : Int) == 117) = false ∧ ((k : Int) == 103) = false ∧ ((k : Int) == 102) = true ∧ (v != 0) = false) ∨
      (((k : Int) == 117) = false ∧ ((k : Int) == 103) = false ∧ ((k : Int) == 102) = true ∧ (v != 0) = true ∧ (v != 1) = false) ∨
      (((k : Int) == 117) = false ∧ ((k : Int) == 103) = false ∧ ((k : Int) == 102) = false))) := by
  unfold argP
  simp only [decide_eq_true_eq, decide_eq_false_iff_not, beq_iff_eq, beq_eq_false_iff_ne, bne_iff_ne, bne_eq_false_iff_eq]
  omega

theorem ofF_size' {c L : Nat} {A : ByteArray} (h : ofF c = some (L, A)) : A.size ≤ 7 := by
  unfold ofF at h
  obtain ⟨j, hj, e⟩ := Option.map_eq_some_iff.1 h
  have hj10 : j < 10 := by simpa using List.mem_of_find?_eq_some hj
  injection e with _ e
  subst e
  have : ∀ j : Fin 10, (sgB j).size ≤ 7 := by decide
  exact this ⟨j, hj10⟩

set_option maxHeartbeats 4000000 in
theorem RightP_any (L : Nat) (av : Value) (xs : List Int) (w : World) (h : SlIa w av xs) (hL : L < 256) (hT : TabSg w) (hw : 14 ≤ w.heap.size) :
    Calls Tryd.prog 25 #[.agg #[.int .u8 L, av]] w fun e w' => e = .returned (.bool (rightP L xs)) ∧ Fr No w w' := by
  obtain ⟨A, cap, rfl, hs⟩ := h
  have HO := Lib.hid (fun (wx : World) (f : Fr No w wx) => of_any L wx (by have := f.size; omega) hL (hT.fr f (by omega) id))
  unfold OfPost at HO
  have HR : Hid (rightP L xs = match ofF L with | none => false | some (_, A) => decide (xs.length = A.size ∧ ∀ j, (h : j < xs.length) → argP (bAt A j) xs[j] = true)) := rfl
  obtain ⟨B, hB⟩ : ∃ B, rightP L xs = B := ⟨_, rfl⟩
  rw [hB] at HR ⊢
  clear hB
  have hsz : ∀ L' S, ofF L = some (L', S) → S.size ≤ 7 := fun _ _ => ofF_size'
  obtain ⟨O, hO⟩ : ∃ O, ofF L = O := ⟨_, rfl⟩
  rw [hO] at HR HO
  rw [hO] at hsz
  clear hO
  match O, HR, HO, hsz with
  | none, HR, HO, hsz =>
    clear hsz
    dsimp only at HO
    go_enter Tryd.func25, Tryd.ntmps25
    go_wp2_with fail
    generalize hW : World.alloc w _ = W0
    obtain ⟨a0, a1, hF⟩ := al1 hW
    clear hW
    have q0 := cell_of_block a1 0
    have q1 := cell_of_block a1 1
    simp only [List.getElem?_toArray, List.getElem?_cons_zero, List.getElem?_cons_succ] at q0 q1
    go_wp2_with (go_at_call 28; refine (HO.out _ (hF No)).mono ?_; rintro e w1 ⟨rfl, f1⟩)
    go_ret
    refine ⟨by rw [HR.out]; rfl, ?_⟩
    exact (((hF No).trans f1).alloc _)
  | some (L', S), HR, HO, hsz =>
    have hsz := hsz _ _ rfl
    dsimp only at HO
    have HB := Lib.hid HR.out
    clear HR
    dsimp only at HB
    by_cases hl : xs.length = S.size
    · have hlb : ((xs.length : Int) != (S.size : Int)) = false := by simp [hl]
      have hl7 : xs.length ≤ 7 := by omega
      have HB : Hid (B = decide (∀ j, (h : j < xs.length) → argP (bAt S j) xs[j] = true)) := by
        unfold Hid; rw [HB.out]; simp [hl]
      have HL := Lib.hid hl
      clear hl
      go_enter Tryd.func25, Tryd.ntmps25
      go_wp2_with fail
      generalize hW : World.alloc w _ = W0
      obtain ⟨a0, a1, hF⟩ := al1 hW
      clear hW
      have q0 := cell_of_block a1 0
      have q1 := cell_of_block a1 1
      simp only [List.getElem?_toArray, List.getElem?_cons_zero, List.getElem?_cons_succ] at q0 q1
      go_wp2_with (go_at_call 28; refine (HO.out _ (hF No)).mono ?_; rintro e w1 ⟨rfl, f1⟩; have r1 : w1.cell? ⟨w.heap.size, 1, none⟩ = _ := (f1.cell (p := ⟨w.heap.size, 1, none⟩) (lt_of_block a1) id).trans q1; have hlt1 : w.heap.size < w1.heap.size := by have := f1.size; omega)
      generalize hW2 : World.alloc w1 _ = W2
      obtain ⟨b0, b1, hF2⟩ := al1 hW2
      clear hW2
      have p1 := cell_of_block b1 1
      simp only [List.getElem?_toArray, List.getElem?_cons_zero, List.getElem?_cons_succ] at p1
      have r2 : W2.cell? ⟨w.heap.size, 1, none⟩ = _ := ((hF2 No).cell (p := ⟨w.heap.size, 1, none⟩) hlt1 id).trans r1
      have hA := ((hF No).trans f1).trans (hF2 No)
      have HA := Lib.hid hA
      clear r1 q0 q1 hF f1 a1 a0 hA hF2
      go_wp2
      go_loopg [5, 6, 27, 32] xs.length (fun gk u5 u6 u27 u32 wx => ∃ i : Nat, i ≤ xs.length ∧ u27 = .int .i64 i ∧ (∀ j, (h : j < xs.length) → j < i → argP (bAt S j) xs[j] = true) ∧ Fr No W2 wx ∧ gk = xs.length - i)
      case atStart => exact ⟨0, by omega, rfl, by omega, Fr.refl W2, rfl⟩
      case round =>
        obtain ⟨i, hi, rfl, hno, hf, rfl⟩ := hrel
        have HN := Lib.hid hno; clear hno
        have p3 : wr.cell? ⟨w1.heap.size, 1, none⟩ = _ := (hf.cell (p := ⟨w1.heap.size, 1, none⟩) (lt_of_block b1) id).trans p1
        clear p1 r2
        by_cases hlt : i < xs.length
        · obtain ⟨g, off, rfl, ht, hc⟩ := hs (by omega)
          have rc : wr.cell? ⟨g, off + i, none⟩ = _ := (((HA.out).trans hf).cell (p := ⟨g, off + i, none⟩) ht.lt id).trans (hc i hlt)
          have hiS : i < S.size := by have := HL.out; omega
          obtain ⟨k, hk⟩ : ∃ k, bAt S i = k := ⟨_, rfl⟩
          have hkk : S[i].toNat = k := (bAt_eq S i hiS).trans hk
          have hk256 : k < 256 := hk ▸ bAt_lt S i
          have hcs := argP_cases k xs[i]
          obtain ⟨x, hx⟩ : ∃ x, xs[i] = x := ⟨_, rfl⟩
          rw [hx] at rc hcs
          have HXX := Lib.hid hx
          have HK := Lib.hid hk
          clear hs hc hx hk
          rcases hcs with ⟨hno, hcs⟩ | ⟨hyes, h1, h2, hcs⟩
          · have HNO := Lib.hid hno
            clear hno
            have HBF : Hid (B = false) := by
              unfold Hid
              rw [HB.out, decide_eq_false_iff_not]
              intro hh
              have := hh i hlt
              rw [HXX.out, HK.out, HNO.out] at this
              cases this
            rcases hcs with h1 | ⟨h1, h2⟩ | ⟨h1, h2, h3, h4⟩ | ⟨h1, h2, h3, h4, h5, h6⟩ | ⟨h1, h2, h3, h4, h5, h6, h7⟩
            all_goals
              go_wp2
              go_ret
              exact ⟨by rw [HBF.out]; rfl, HA.out.trans hf⟩
          · have HY := Lib.hid hyes
            clear hyes
            rcases hcs with ⟨h3, h4, h5, h6⟩ | ⟨h3, h4, h5⟩ | ⟨h3, h4, h5, h6⟩ | ⟨h3, h4, h5, h6⟩ | ⟨h3, h4, h5, h6, h7⟩ | ⟨h3, h4, h5⟩
            all_goals
              go_wp2
              go_roundg (xs.length - (i + 1))
              case measure => omega
              case rel => exact ⟨i + 1, by omega, by go_num, fun j h hj => by
                by_cases hji : j = i
                · subst hji; rw [HXX.out, HK.out]; exact HY.out
                · exact HN.out j h (by omega), hf, rfl⟩
        · have HBT : Hid (B = true) := by
            unfold Hid
            rw [HB.out, decide_eq_true_iff]
            exact fun j h => HN.out j h (by omega)
          go_wp2
          go_ret
          exact ⟨by rw [HBT.out]; rfl, HA.out.trans hf⟩
    · have hlb : ((xs.length : Int) != (S.size : Int)) = true := by simp; omega
      have HB : Hid (B = false) := by unfold Hid; rw [HB.out]; simp [hl]
      clear hl
      go_enter Tryd.func25, Tryd.ntmps25
      go_wp2_with fail
      generalize hW : World.alloc w _ = W0
      obtain ⟨a0, a1, hF⟩ := al1 hW
      clear hW
      have q0 := cell_of_block a1 0
      have q1 := cell_of_block a1 1
      simp only [List.getElem?_toArray, List.getElem?_cons_zero, List.getElem?_cons_succ] at q0 q1
      go_wp2_with (go_at_call 28; refine (HO.out _ (hF No)).mono ?_; rintro e w1 ⟨rfl, f1⟩; have r1 : w1.cell? ⟨w.heap.size, 1, none⟩ = _ := (f1.cell (p := ⟨w.heap.size, 1, none⟩) (lt_of_block a1) id).trans q1; have hlt1 : w.heap.size < w1.heap.size := by have := f1.size; omega)
      go_ret
      exact ⟨by rw [HB.out]; rfl, ((hF No).trans f1).alloc _⟩
end Go.Proofs.YtchgjjegcoiepaaDoor
