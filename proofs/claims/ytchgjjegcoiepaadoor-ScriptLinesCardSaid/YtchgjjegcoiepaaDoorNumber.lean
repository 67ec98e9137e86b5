import Derived.Test.YtchgjjegcoiepaaDoorParse
import Derived.Deep.RegionWith
namespace Go.Proofs.YtchgjjegcoiepaaDoor
open Go.RowKit

/-- the number at a place: what it is, the error, and where the reader is then. -/
def numF (s : ByteArray) (i : Nat) (signed : Bool) : Int × Nat × Nat :=
  if endL.getD (scanGo s signed i 0).2 0 = 1 then
    let r := parseF (s.extract i (scanGo s signed i 0).1)
    (r.1, r.2, if r.2 = 0 then (scanGo s signed i 0).1 else i)
  else (0, 3, (scanGo s signed i 0).1)
theorem numF_bd (s : ByteArray) (i : Nat) (signed : Bool) (hi : i ≤ s.size) : i ≤ (numF s i signed).2.2 ∧ (numF s i signed).2.2 ≤ s.size := by
  have := scanGo_bd s signed (s.size - i) i 0 rfl hi
  unfold numF
  split
  · dsimp only; split <;> omega
  · dsimp only; omega
def RdPost (b : Nat) (s : ByteArray) (w : World) (r : Int × Nat × Nat) (e : Ending) (w' : World) : Prop :=
  e = .returned (.tuple #[.int .i64 r.1, .int .i64 r.2.1]) ∧ Rd w' b s r.2.2 ∧ Fr (One b) w w'

set_option maxRecDepth 100000 in
set_option maxHeartbeats 1000000 in
theorem Number_any (b : Nat) (s : ByteArray) (i : Nat) (signed : Bool) (w : World) (h : Rd w b s i) (hb : 14 ≤ b) (hT : TabNx w) :
    Calls Tryd.prog 112 #[.pointer (some ⟨b, 0, none⟩), .bool signed] w (RdPost b s w (numF s i signed)) := by
  have h0 := h.c0; have h1 := h.c1; have f1 := h.f1; have hi := h.2.1; have hs := h.2.2; have hlt := h.lt
  have hbd := scanGo_bd s signed (s.size - i) i 0 rfl hi
  have HS := Lib.hid (fun wx (hx : TabNx wx) => Scan_any s i signed wx hi hs hx)
  have HTT := Lib.hid hT
  obtain ⟨R, hR⟩ : ∃ R, numF s i signed = R := ⟨_, rfl⟩
  rw [hR]
  unfold numF at hR
  obtain ⟨E, hE⟩ : ∃ E, (scanGo s signed i 0).1 = E := ⟨_, rfl⟩
  rw [hE] at hR hbd HS
  by_cases hok : endL.getD (scanGo s signed i 0).2 0 = 1
  · rw [if_pos hok] at hR
    rw [decide_eq_true hok] at HS
    have hsz : (s.extract i E).size ≤ 140737488351232 := by rw [ByteArray.size_extract]; omega
    have HPx := Lib.hid (fun wx (hx : TabNx wx) => parse_any (s.extract i E) wx hsz hx)
    obtain ⟨r, hr⟩ : ∃ r, parseF (s.extract i E) = r := ⟨_, rfl⟩
    rw [hr] at hR HPx
    dsimp only at hR
    have HRR := Lib.hid hR
    clear hR hr hE hok hT hsz
    go_enter Tryd.func112, Tryd.ntmps112
    go_wp2_with fail
    go_quiet ((go_at_call 120; exact Calls.quiet_of (HS.out _ HTT.out)))
    go_upto_region 5 with (fail)
    obtain ⟨r1, r2⟩ := r
    dsimp only at HRR HPx
    go_cut [8, 9] (fun v e wx => v = .int .i64 r1 ∧ e = .int .i64 r2 ∧ Fr No w wx)
    case first =>
      go_region_with ((go_at_call 97; refine (HPx.out _ (by exact HTT.out)).mono ?_; rintro e w' ⟨rfl, fp⟩))
      all_goals
        go_wp2_with fail
        go_meet
        exact ⟨rfl, rfl, Fr.trans ((Fr.refl w).drewN _) fp⟩
    case rest =>
      obtain ⟨rfl, rfl, fx⟩ := hcut
      have hR2 := h.fr fx id
      have g1 := hR2.f1
      have c1 := hR2.c1
      by_cases hz : r2 = 0
      · have hzb : ((r2 : Int) == 0) = true := by simp [hz]
        have HZ := Lib.hid hz; clear hz
        go_wp2
        go_ret2
        have e : R = (r1, r2, E) := by rw [← HRR.out, if_pos HZ.out]
        rw [e]
        exact ⟨rfl, hR2.set E hbd.2, (Fr.no fx).set1 _ _⟩
      · have hzb : ((r2 : Int) == 0) = false := by simp [hz]
        have HZ := Lib.hid hz; clear hz
        go_wp2
        go_ret2
        have e : R = (r1, r2, i) := by rw [← HRR.out, if_neg HZ.out]
        rw [e]
        exact ⟨rfl, hR2, Fr.no fx⟩
  · rw [if_neg hok] at hR
    rw [decide_eq_false hok] at HS
    have HRR := Lib.hid hR
    clear hR hE hok hT
    go_enter Tryd.func112, Tryd.ntmps112
    go_wp2_with fail
    go_quiet ((go_at_call 120; exact Calls.quiet_of (HS.out _ HTT.out)))
    go_wp2
    go_ret2
    rw [← HRR.out]
    exact ⟨rfl, (h.drewN nq).set E hbd.2, ((Fr.refl w).drewN nq).set1 _ _⟩

/-- the kinds of arguments: n 110, u 117, f 102, g 103. -/
def argF (s : ByteArray) (i k : Nat) : Int × Nat × Nat :=
  if k = 103 ∨ k = 102 then (if i < s.size ∧ (bAt s i = 48 ∨ bAt s i = 49) then (((bAt s i - 48 : Nat) : Int), 0, i + 1) else (0, 3, i)) else numF s i (k == 110)
theorem argF_bd (s : ByteArray) (i k : Nat) (hi : i ≤ s.size) : i ≤ (argF s i k).2.2 ∧ (argF s i k).2.2 ≤ s.size := by
  unfold argF
  split
  · split <;> dsimp only <;> omega
  · exact numF_bd s i _ hi

set_option maxHeartbeats 1000000 in
theorem argument_any (b : Nat) (s : ByteArray) (i k : Nat) (w : World) (h : Rd w b s i) (hb : 14 ≤ b) (hT : TabNx w) (hk : k < 256) :
    Calls Tryd.prog 90 #[.pointer (some ⟨b, 0, none⟩), .int .u8 k] w (RdPost b s w (argF s i k)) := by
  by_cases hf : k = 103 ∨ k = 102
  · by_cases hc : i < s.size ∧ (bAt s i = 48 ∨ bAt s i = 49)
    · have HF := Lib.hid (Flag_ok b s i w h hc.1 hc.2)
      have e : Hid (argF s i k = (((bAt s i - 48 : Nat) : Int), 0, i + 1)) := by unfold Hid argF; rw [if_pos hf, if_pos hc]
      obtain ⟨x, hx⟩ : ∃ x, bAt s i - 48 = x := ⟨_, rfl⟩
      rw [hx] at HF e
      have hx1 : x ≤ 255 := by have := bAt_lt s i; omega
      clear hx hc
      rw [e.out]
      rcases hf with rfl | rfl
      all_goals
        go_enter Tryd.func90, Tryd.ntmps90
        go_wp2_with (go_at_call 111; refine HF.out.mono ?_; rintro e w' ⟨rfl, r, f⟩)
        go_ret2
        exact ⟨rfl, r, f⟩
    · have HF := Lib.hid (Flag_bad b s i w h hc)
      have e : Hid (argF s i k = (0, 3, i)) := by unfold Hid argF; rw [if_pos hf, if_neg hc]
      clear hc
      rw [e.out]
      rcases hf with rfl | rfl
      all_goals
        go_enter Tryd.func90, Tryd.ntmps90
        go_wp2_with (go_at_call 111; refine HF.out.mono ?_; rintro e w' ⟨rfl, n, rfl⟩)
        go_ret2
        exact ⟨rfl, h.drewN n, (Fr.refl w).drewN n⟩
  · have h3 : ((k : Int) == 103) = false := by simp; omega
    have h2 : ((k : Int) == 102) = false := by simp; omega
    have e : Hid (argF s i k = numF s i ((k : Int) == 110)) := by
      unfold Hid argF; rw [if_neg hf]; congr 1; rw [Bool.eq_iff_iff]; simp; omega
    have HN := Lib.hid (Number_any b s i ((k : Int) == 110) w h hb hT)
    rw [e.out]
    clear hf
    go_enter Tryd.func90, Tryd.ntmps90
    go_wp2_with (go_at_call 112; refine HN.out.mono ?_; rintro e w' ⟨rfl, r, f⟩)
    go_ret2
    exact ⟨rfl, r, f⟩

/-- does a byte begin an argument of a kind? -/
def begF (c k : Nat) : Bool := (decide (48 ≤ c) && decide (c ≤ 57)) || c == 46 || (k != 117 && (c == 43 || c == 45))
theorem begins_any (c k : Nat) (w : World) (hc : c < 256) (hk : k < 256) : Calls Tryd.prog 91 #[.int .u8 c, .int .u8 k] w fun e w' => e = .returned (.bool (begF c k)) ∧ w = w' := by
  have HB : Hid (begF c k = ((decide (48 ≤ c) && decide (c ≤ 57)) || ((c : Int) == 46) || (((k : Int) != 117) && (((c : Int) == 43) || ((c : Int) == 45))))) := by
    unfold Hid begF
    have e1 : (c == 46) = ((c : Int) == 46) := by rw [Bool.eq_iff_iff]; simp; omega
    have e2 : (c == 43) = ((c : Int) == 43) := by rw [Bool.eq_iff_iff]; simp; omega
    have e3 : (c == 45) = ((c : Int) == 45) := by rw [Bool.eq_iff_iff]; simp; omega
    have e4 : (k != 117) = ((k : Int) != 117) := by rw [Bool.eq_iff_iff]; simp; omega
    rw [e1, e2, e3, e4]
  rw [HB.out]
  by_cases h1 : 48 ≤ c ∧ c ≤ 57
  · obtain ⟨h1, h2⟩ := h1
    have h46 : ((c : Int) == 46) = false := by simp; omega
    go_enter Tryd.func91, Tryd.ntmps91
    go_wp2
    go_ret
    exact ⟨by simp [h2], rfl⟩
  · have hh : (decide (48 ≤ c) && decide (c ≤ 57)) = false := by simp; omega
    rw [hh]
    have hor : (decide (48 ≤ c) = false) ∨ (48 ≤ c ∧ 57 < c) := by simp; omega
    clear hh h1
    have hI : decide ((48 : Int) ≤ (c : Int)) = false ∨ (decide ((48 : Int) ≤ (c : Int)) = true ∧ decide ((c : Int) ≤ 57) = false) := by
      rcases hor with h | ⟨h, h'⟩
      · left; simp at h ⊢; omega
      · right; simp; omega
    clear hor
    cases h46 : ((c : Int) == 46) <;> cases h117 : ((k : Int) != 117) <;> cases h43 : ((c : Int) == 43)
    all_goals
      rcases hI with hI | ⟨hI, hI2⟩
      all_goals
        go_enter Tryd.func91, Tryd.ntmps91
        go_wp2
        go_ret
        exact ⟨rfl, rfl⟩
end Go.Proofs.YtchgjjegcoiepaaDoor
