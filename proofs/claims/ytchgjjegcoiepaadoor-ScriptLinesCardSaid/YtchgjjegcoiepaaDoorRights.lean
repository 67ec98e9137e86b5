import Derived.Test.YtchgjjegcoiepaaDoorArg
namespace Go.Proofs.YtchgjjegcoiepaaDoor
open Go.RowKit

/-- how many arguments a letter has, the document's. -/
def cntR (c : Nat) : Int :=
  if c = 77 ∨ c = 109 ∨ c = 76 ∨ c = 108 ∨ c = 84 ∨ c = 116 then 2 else if c = 72 ∨ c = 104 ∨ c = 86 ∨ c = 118 then 1 else if c = 67 ∨ c = 99 then 6
  else if c = 83 ∨ c = 115 ∨ c = 81 ∨ c = 113 then 4 else if c = 65 ∨ c = 97 then 7 else if c = 90 ∨ c = 122 then 0 else -1
def arcF (c : Nat) : Bool := decide (c = 65 ∨ c = 97)

theorem arc_any (c : Nat) (w : World) : Calls Tryd.prog 35 #[.int .u8 c] w fun e w' => e = .returned (.bool (arcF c)) ∧ w = w' := by
  by_cases h : c = 65
  · subst h
    go_enter Tryd.func35, Tryd.ntmps35
    go_wp2
    go_ret
    exact ⟨rfl, rfl⟩
  · have h1 : ((c : Int) == 65) = false := by simp; omega
    by_cases h' : c = 97
    · subst h'
      go_enter Tryd.func35, Tryd.ntmps35
      go_wp2
      go_ret
      exact ⟨rfl, rfl⟩
    · have h2 : ((c : Int) == 97) = false := by simp; omega
      have H : Hid (arcF c = false) := by unfold Hid arcF; simp [h, h']
      clear h h'
      go_enter Tryd.func35, Tryd.ntmps35
      go_wp2
      go_ret
      exact ⟨by rw [H.out]; rfl, rfl⟩

set_option maxHeartbeats 2000000 in
theorem Count_any (c : Nat) (w : World) : Calls Tryd.prog 60 #[.int .u8 c] w fun e w' => e = .returned (.int .i64 (cntR c)) ∧ w = w' := by
  have hc : (c = 77 ∨ c = 109 ∨ c = 76 ∨ c = 108 ∨ c = 84 ∨ c = 116 ∨ c = 72 ∨ c = 104 ∨ c = 86 ∨ c = 118 ∨ c = 67 ∨ c = 99 ∨ c = 83 ∨ c = 115 ∨ c = 81 ∨ c = 113 ∨ c = 65 ∨ c = 97 ∨ c = 90 ∨ c = 122) ∨
    ¬ (c = 77 ∨ c = 109 ∨ c = 76 ∨ c = 108 ∨ c = 84 ∨ c = 116 ∨ c = 72 ∨ c = 104 ∨ c = 86 ∨ c = 118 ∨ c = 67 ∨ c = 99 ∨ c = 83 ∨ c = 115 ∨ c = 81 ∨ c = 113 ∨ c = 65 ∨ c = 97 ∨ c = 90 ∨ c = 122) := Decidable.em _
  rcases hc with h | h
  · rcases h with rfl | rfl | rfl | rfl | rfl | rfl | rfl | rfl | rfl | rfl | rfl | rfl | rfl | rfl | rfl | rfl | rfl | rfl | rfl | rfl
    all_goals
      go_enter Tryd.func60, Tryd.ntmps60
      go_wp2
      go_ret
      exact ⟨rfl, rfl⟩
  · have H : Hid (cntR c = -1) := by
      unfold Hid cntR
      rw [if_neg (by omega), if_neg (by omega), if_neg (by omega), if_neg (by omega), if_neg (by omega), if_neg (by omega)]
    have d1 : ((c : Int) == 77) = false := by simp; omega
    have d2 : ((c : Int) == 109) = false := by simp; omega
    have d3 : ((c : Int) == 76) = false := by simp; omega
    have d4 : ((c : Int) == 108) = false := by simp; omega
    have d5 : ((c : Int) == 84) = false := by simp; omega
    have d6 : ((c : Int) == 116) = false := by simp; omega
    have d7 : ((c : Int) == 72) = false := by simp; omega
    have d8 : ((c : Int) == 104) = false := by simp; omega
    have d9 : ((c : Int) == 86) = false := by simp; omega
    have e1 : ((c : Int) == 118) = false := by simp; omega
    have e2 : ((c : Int) == 67) = false := by simp; omega
    have e3 : ((c : Int) == 99) = false := by simp; omega
    have e4 : ((c : Int) == 83) = false := by simp; omega
    have e5 : ((c : Int) == 115) = false := by simp; omega
    have e6 : ((c : Int) == 81) = false := by simp; omega
    have e7 : ((c : Int) == 113) = false := by simp; omega
    have e8 : ((c : Int) == 65) = false := by simp; omega
    have e9 : ((c : Int) == 97) = false := by simp; omega
    have f1 : ((c : Int) == 90) = false := by simp; omega
    have f2 : ((c : Int) == 122) = false := by simp; omega
    clear h
    go_enter Tryd.func60, Tryd.ntmps60
    go_wp2
    go_ret
    exact ⟨by rw [H.out]; rfl, rfl⟩
/-- may a number be an argument? -/
def argOk (arc : Bool) (i : Nat) (v : Int) : Bool := decide (-4294967296 < v ∧ v < 4294967296 ∧ (arc = true → (i < 2 → 0 ≤ v) ∧ (i = 3 ∨ i = 4 → v = 0 ∨ v = 1)))
def rightF (L : Nat) (xs : List Int) : Bool := decide (cntR L = (xs.length : Int) ∧ ∀ j, (h : j < xs.length) → argOk (arcF L) j xs[j] = true)

theorem cntR_bd (c : Nat) : cntR c ≤ 7 := by unfold cntR; (repeat' split) <;> omega

/-- what the tests ask of an argument. -/
theorem arg_cases (arc : Bool) (i : Nat) (v : Int) :
    (argOk arc i v = false ∧ ((decide (v ≤ -4294967296) = true) ∨
      (decide (v ≤ -4294967296) = false ∧ decide ((4294967296 : Int) ≤ v) = true) ∨
      (decide (v ≤ -4294967296) = false ∧ decide ((4294967296 : Int) ≤ v) = false ∧ arc = true ∧ decide ((i : Int) < 2) = true ∧ decide (v < 0) = true) ∨
      (decide (v ≤ -4294967296) = false ∧ decide ((4294967296 : Int) ≤ v) = false ∧ arc = true ∧ decide ((i : Int) < 2) = false ∧ ((i : Int) == 3) = true ∧ (v != 0) = true ∧ (v != 1) = true) ∨
      (decide (v ≤ -4294967296) = false ∧ decide ((4294967296 : Int) ≤ v) = false ∧ arc = true ∧ decide ((i : Int) < 2) = false ∧ ((i : Int) == 3) = false ∧ ((i : Int) == 4) = true ∧ (v != 0) = true ∧ (v != 1) = true))) ∨
    (argOk arc i v = true ∧ decide (v ≤ -4294967296) = false ∧ decide ((4294967296 : Int) ≤ v) = false ∧ (arc = false ∨
      (arc = true ∧ decide ((i : Int) < 2) = true ∧ decide (v < 0) = false ∧ ((i : Int) == 3) = false ∧ ((i : Int) == 4) = false) ∨
      (arc = true ∧ decide ((i : Int) < 2) = false ∧ ((i : Int) == 3) = true ∧ (v != 0) = false) ∨
      (arc = true ∧ decide ((i : Int) < 2) = false ∧ ((i : Int) == 3) = true ∧ (v != 0) = true ∧ (v != 1) = false) ∨
      (arc = true ∧ decide ((i : Int) < 2) = false ∧ ((i : Int) == 3) = false ∧ ((i : Int) == 4) = true ∧ (v != 0) = false) ∨
      (arc = true ∧ decide ((i : Int) < 2) = false ∧ ((i : Int) == 3) = false ∧ ((i : Int) == 4) = true ∧ (v != 0) = true ∧ (v != 1) = false) ∨
      (arc = true ∧ decide ((i : Int) < 2) = false ∧ ((i : Int) == 3) = false ∧ ((i : Int) == 4) = false))) := by
  unfold argOk
  simp only [decide_eq_true_eq, decide_eq_false_iff_not, beq_iff_eq, beq_eq_false_iff_ne, bne_iff_ne, bne_eq_false_iff_eq]
  cases arc
  · simp only [Bool.false_eq_true, false_implies, and_true, false_and, or_false, and_false, reduceCtorEq, true_or, true_and]
    omega
  · simp only [true_implies, true_and, reduceCtorEq, false_or]
    omega

theorem SlIa.len {w : World} {A : Option Addr} {n cap : Nat} {xs : List Int} (h : SlIa w (.slice A n cap) xs) : n = xs.length := by
  obtain ⟨_, _, e, _⟩ := h; injection e

set_option maxHeartbeats 4000000 in
theorem Right_any (L : Nat) (av : Value) (xs : List Int) (w : World) (h : SlIa w av xs) :
    Calls Tryd.prog 32 #[.agg #[.int .u8 L, av]] w fun e w' => e = .returned (.bool (rightF L xs)) ∧ Fr No w w' := by
  obtain ⟨A, cap, rfl, hs⟩ := h
  have HC := Lib.hid (fun w => Count_any L w)
  have HA := Lib.hid (fun w => arc_any L w)
  have hbd := cntR_bd L
  have HR : Hid (rightF L xs = decide (cntR L = (xs.length : Int) ∧ ∀ j, (h : j < xs.length) → argOk (arcF L) j xs[j] = true)) := rfl
  obtain ⟨B, hB⟩ : ∃ B, rightF L xs = B := ⟨_, rfl⟩
  rw [hB] at HR ⊢
  clear hB
  obtain ⟨C, hC⟩ : ∃ C, cntR L = C := ⟨_, rfl⟩
  rw [hC] at HR HC hbd
  clear hC
  obtain ⟨arc, harc⟩ : ∃ B, arcF L = B := ⟨_, rfl⟩
  rw [harc] at HR HA
  clear harc
  by_cases hl : C = xs.length
  · have hlb : (C != (xs.length : Int)) = false := by simp [hl]
    have hl7 : xs.length ≤ 7 := by omega
    have HB : Hid (B = decide (∀ j, (h : j < xs.length) → argOk arc j xs[j] = true)) := by
      unfold Hid; rw [HR.out]; simp [hl]
    clear HR hl hbd
    go_enter Tryd.func32, Tryd.ntmps32
    go_wp2_with fail
    generalize hW : World.alloc w _ = W0
    obtain ⟨a0, a1, hF⟩ := al1 hW
    clear hW
    have q0 := cell_of_block a1 0
    have q1 := cell_of_block a1 1
    simp only [List.getElem?_toArray, List.getElem?_cons_zero, List.getElem?_cons_succ] at q0 q1
    go_quiet ((go_at_call 60; exact Calls.quiet_of_same ((HC.out _).mono (by rintro e w' ⟨rfl, rfl⟩; exact ⟨rfl, rfl⟩))))
    go_wp2
    go_loopg [3, 4] xs.length (fun gk u3 u4 wx => ∃ i : Nat, i ≤ xs.length ∧ u3 = .int .i64 i ∧ (∀ j, (h : j < xs.length) → j < i → argOk arc j xs[j] = true) ∧ Fr No W0 wx ∧ gk = xs.length - i)
    case atStart => exact ⟨0, by omega, rfl, by omega, (Fr.refl W0).drewN _, rfl⟩
    case round =>
      obtain ⟨i, hi, rfl, hno, hf, rfl⟩ := hrel
      have HN := Lib.hid hno; clear hno
      have r0 : wr.cell? ⟨w.heap.size, 0, none⟩ = _ := (hf.cell (p := ⟨w.heap.size, 0, none⟩) (by have := lt_of_block a1; exact this) id).trans q0
      have r1 : wr.cell? ⟨w.heap.size, 1, none⟩ = _ := (hf.cell (p := ⟨w.heap.size, 1, none⟩) (by have := lt_of_block a1; exact this) id).trans q1
      clear q0 q1
      by_cases hlt : i < xs.length
      · obtain ⟨g, off, rfl, ht, hc⟩ := hs (by omega)
        have rc : wr.cell? ⟨g, off + i, none⟩ = _ := ((((hF No).trans hf).cell (p := ⟨g, off + i, none⟩) ht.lt id)).trans (hc i hlt)
        have HX : Hid (argOk arc i xs[i] = argOk arc i xs[i]) := rfl
        have hcs := arg_cases arc i xs[i]
        obtain ⟨x, hx⟩ : ∃ x, xs[i] = x := ⟨_, rfl⟩
        rw [hx] at rc hcs
        have HXX := Lib.hid hx
        clear hs hc hx
        rcases hcs with ⟨hno, hcs⟩ | ⟨hyes, h1, h2, hcs⟩
        · have HNO := Lib.hid hno
          clear hno
          have HBF : Hid (B = false) := by
            unfold Hid
            rw [HB.out, decide_eq_false_iff_not]
            intro hh
            have := hh i hlt
            rw [HXX.out, HNO.out] at this
            cases this
          rcases hcs with h1 | ⟨h1, h2⟩ | ⟨h1, h2, rfl, h3, h4⟩ | ⟨h1, h2, rfl, h3, h4, h5, h6⟩ | ⟨h1, h2, rfl, h3, h4, h5, h6, h7⟩
          all_goals
            go_wp2_with (go_at_call 35; refine (HA.out _).mono ?_; rintro e w' ⟨rfl, rfl⟩)
            go_ret
            exact ⟨by rw [HBF.out]; rfl, ((hF No).trans hf)⟩
        · have HY := Lib.hid hyes
          clear hyes
          rcases hcs with rfl | ⟨rfl, h3, h4, h5, h6⟩ | ⟨rfl, h3, h4, h5⟩ | ⟨rfl, h3, h4, h5, h6⟩ | ⟨rfl, h3, h4, h5, h6⟩ | ⟨rfl, h3, h4, h5, h6, h7⟩ | ⟨rfl, h3, h4, h5⟩
          all_goals
            go_wp2_with (go_at_call 35; refine (HA.out _).mono ?_; rintro e w' ⟨rfl, rfl⟩)
            go_roundg (xs.length - (i + 1))
            case measure => omega
            case rel => exact ⟨i + 1, by omega, by go_num, fun j h hj => by
              by_cases hji : j = i
              · subst hji; rw [HXX.out]; exact HY.out
              · exact HN.out j h (by omega), hf, rfl⟩
      · have HBT : Hid (B = true) := by
          unfold Hid
          rw [HB.out, decide_eq_true_iff]
          exact fun j h => HN.out j h (by omega)
        go_wp2
        go_ret
        exact ⟨by rw [HBT.out]; rfl, (hF No).trans hf⟩
  · have hlb : (C != (xs.length : Int)) = true := by simp [hl]
    have HB : Hid (B = false) := by unfold Hid; rw [HR.out]; simp [hl]
    clear HR hl hbd
    go_enter Tryd.func32, Tryd.ntmps32
    go_wp2_with fail
    generalize hW : World.alloc w _ = W0
    obtain ⟨a0, a1, hF⟩ := al1 hW
    clear hW
    have q0 := cell_of_block a1 0
    have q1 := cell_of_block a1 1
    simp only [List.getElem?_toArray, List.getElem?_cons_zero, List.getElem?_cons_succ] at q0 q1
    go_quiet ((go_at_call 60; exact Calls.quiet_of_same ((HC.out _).mono (by rintro e w' ⟨rfl, rfl⟩; exact ⟨rfl, rfl⟩))))
    go_wp2
    go_ret
    exact ⟨by rw [HB.out]; rfl, (hF No).drewN _⟩
end Go.Proofs.YtchgjjegcoiepaaDoor
