import Derived.Test.YtchgjjegcoiepaaDoorPrint
namespace Go.Proofs.YtchgjjegcoiepaaDoor
open Go.RowKit

def greatF (l : List Cmd) (m : Nat) : Bool := !decide (l.length ≤ m ∧ ∀ j, (h : j < l.length) → l[j].A.length ≤ 20)

/-- what a slice of commands tells of one of them. -/
theorem SlCa.parts {w : World} {A : Option Addr} {n cap : Nat} {l : List Cmd} (h : SlCa w (.slice A n cap) l) (h0 : 0 < l.length) :
    ∃ g off, A = some ⟨g, off, none⟩ ∧ Bk w g ∧ ∀ j (h : j < l.length), w.cell? ⟨g, off + j * 2, none⟩ = some (.int .u8 l[j].L) ∧ ∃ A2 cap2, w.cell? ⟨g, off + j * 2 + 1, none⟩ = some (.slice A2 l[j].A.length cap2) ∧ SlIa w (.slice A2 l[j].A.length cap2) l[j].A := by
  obtain ⟨A', cap', e, hh⟩ := h
  injection e with e1 _ _
  subst e1
  obtain ⟨g, off, e, ht, hc⟩ := hh h0
  refine ⟨g, off, e, ht, fun j hj => ?_⟩
  obtain ⟨c1, av, c2, c3⟩ := hc j hj
  obtain ⟨A2, cap2, rfl, _⟩ := id c3
  exact ⟨c1, A2, cap2, c2, c3⟩

set_option maxHeartbeats 2000000 in
theorem Great_any (l : List Cmd) (m : Nat) (lv : Value) (w : World) (h : SlCa w lv l) (hm : m ≤ 1000) :
    Calls Tryd.prog 10 #[lv, .int .i64 m] w fun e w' => e = .returned (.bool (greatF l m)) ∧ Fr No w w' := by
  obtain ⟨A, cap, rfl, _⟩ := id h
  have HR : Hid (greatF l m = !decide (l.length ≤ m ∧ ∀ j, (h : j < l.length) → l[j].A.length ≤ 20)) := rfl
  obtain ⟨R, hR⟩ : ∃ R, greatF l m = R := ⟨_, rfl⟩
  rw [hR] at HR ⊢
  clear hR
  by_cases hl : l.length ≤ m
  · have hlb : decide (m < l.length) = false := by simp; omega
    have hl1 : l.length ≤ 1000 := by omega
    have HL := Lib.hid hl
    clear hl
    go_enter Tryd.func10, Tryd.ntmps10
    go_wp2
    go_loopg [5] l.length (fun gk u5 wx => ∃ i : Nat, u5 = .int .i64 i ∧ i ≤ l.length ∧ (∀ j, (h : j < l.length) → j < i → l[j].A.length ≤ 20) ∧ Fr No w wx ∧ gk = l.length - i)
    case atStart => exact ⟨0, rfl, by omega, by omega, Fr.refl w, rfl⟩
    case round =>
      obtain ⟨i, rfl, hi, hno, hf, rfl⟩ := hrel
      have HN := Lib.hid hno; clear hno
      by_cases hlt : i < l.length
      · obtain ⟨g, off, rfl, ht, hc⟩ := h.parts (by omega)
        obtain ⟨c1, A2, cap2, c2, _⟩ := hc i hlt
        have r2 : wr.cell? ⟨g, off + i * 2 + 1, none⟩ = _ := (hf.cell (p := ⟨g, off + i * 2 + 1, none⟩) ht.lt id).trans c2
        clear hc c1 c2
        obtain ⟨n, hn⟩ : ∃ n, l[i].A.length = n := ⟨_, rfl⟩
        rw [hn] at r2
        have HNN := Lib.hid hn
        clear hn
        by_cases h20 : n ≤ 20
        · have hb : decide ((20 : Int) < (n : Int)) = false := by simp; omega
          go_wp2
          go_roundg (l.length - (i + 1))
          case measure => omega
          case rel => exact ⟨i + 1, by go_num, by omega, fun j h hj => by
            by_cases hji : j = i
            · subst hji; rw [HNN.out]; exact h20
            · exact HN.out j h (by omega), hf, rfl⟩
        · have hb : decide ((20 : Int) < (n : Int)) = true := by simp; omega
          have HB : Hid (R = true) := by
            unfold Hid; rw [HR.out, Bool.not_eq_true', decide_eq_false_iff_not]
            intro hh
            have := hh.2 i hlt
            rw [HNN.out] at this
            exact h20 this
          go_wp2
          go_ret
          exact ⟨by rw [HB.out]; rfl, hf⟩
      · have HB : Hid (R = false) := by
          unfold Hid; rw [HR.out, Bool.not_eq_false', decide_eq_true_iff]
          exact ⟨HL.out, fun j h => HN.out j h (by omega)⟩
        go_wp2
        go_ret
        exact ⟨by rw [HB.out]; rfl, hf⟩
  · have hlb : decide (m < l.length) = true := by simp; omega
    have HB : Hid (R = true) := by
      unfold Hid; rw [HR.out, Bool.not_eq_true', decide_eq_false_iff_not]
      intro hh; omega
    clear hl
    go_enter Tryd.func10, Tryd.ntmps10
    go_wp2
    go_ret
    exact ⟨by rw [HB.out]; rfl, Fr.refl w⟩

def mayR (l : List Cmd) : Bool := decide (∀ j, (h : j < l.length) → rightF l[j].L l[j].A = true ∧ (j = 0 → l[j].L = 77 ∨ l[j].L = 109))

set_option maxHeartbeats 2000000 in
theorem May_any (l : List Cmd) (lv : Value) (w : World) (h : SlCa w lv l) (hl1 : l.length ≤ 1000) :
    Calls Tryd.prog 12 #[lv] w fun e w' => e = .returned (.bool (mayR l)) ∧ Fr No w w' := by
  obtain ⟨A, cap, rfl, _⟩ := id h
  have HR : Hid (mayR l = decide (∀ j, (h : j < l.length) → rightF l[j].L l[j].A = true ∧ (j = 0 → l[j].L = 77 ∨ l[j].L = 109))) := rfl
  obtain ⟨R, hR⟩ : ∃ R, mayR l = R := ⟨_, rfl⟩
  rw [hR] at HR ⊢
  clear hR
  go_enter Tryd.func12, Tryd.ntmps12
  go_wp2
  go_loopg [3] l.length (fun gk u3 wx => ∃ i : Nat, u3 = .int .i64 i ∧ i ≤ l.length ∧ (∀ j, (h : j < l.length) → j < i → rightF l[j].L l[j].A = true ∧ (j = 0 → l[j].L = 77 ∨ l[j].L = 109)) ∧ Fr No w wx ∧ gk = l.length - i)
  case atStart => exact ⟨0, rfl, by omega, by omega, Fr.refl w, rfl⟩
  case round =>
    obtain ⟨i, rfl, hi, hno, hf, rfl⟩ := hrel
    have HN := Lib.hid hno; clear hno
    by_cases hlt : i < l.length
    · obtain ⟨g, off, rfl, ht, hc⟩ := h.parts (by omega)
      obtain ⟨c1, A2, cap2, c2, c3⟩ := hc i hlt
      have r1 : wr.cell? ⟨g, off + i * 2, none⟩ = _ := (hf.cell (p := ⟨g, off + i * 2, none⟩) ht.lt id).trans c1
      have r2 : wr.cell? ⟨g, off + i * 2 + 1, none⟩ = _ := (hf.cell (p := ⟨g, off + i * 2 + 1, none⟩) ht.lt id).trans c2
      have c4 := c3.fr hf (fun k _ => id)
      obtain ⟨L, hLL⟩ : ∃ L, l[i].L = L := ⟨_, rfl⟩
      obtain ⟨xs, hxs⟩ : ∃ xs, l[i].A = xs := ⟨_, rfl⟩
      rw [hLL] at r1
      rw [hxs] at r2 c4
      have HRt := Lib.hid (Right_any L _ xs wr c4)
      have HLL := Lib.hid hLL
      have HXS := Lib.hid hxs
      have htl := ht.lt
      have hsz := hf.size
      clear hc c1 c2 c3 hLL hxs c4
      obtain ⟨B, hB⟩ : ∃ B, rightF L xs = B := ⟨_, rfl⟩
      rw [hB] at HRt
      have HB := Lib.hid hB
      clear hB
      have hcs : (B = false ∧ R = false) ∨ (B = true ∧ ((i : Int) == 0) = false) ∨ (B = true ∧ ((i : Int) == 0) = true ∧ ((L : Int) != 77) = false) ∨ (B = true ∧ ((i : Int) == 0) = true ∧ ((L : Int) != 77) = true ∧ ((L : Int) != 109) = false) ∨ (B = true ∧ ((i : Int) == 0) = true ∧ ((L : Int) != 77) = true ∧ ((L : Int) != 109) = true ∧ R = false) := by
        cases B
        · refine .inl ⟨rfl, ?_⟩
          rw [HR.out, decide_eq_false_iff_not]
          intro hh
          have := (hh i hlt).1
          rw [HLL.out, HXS.out, HB.out] at this
          cases this
        · refine .inr ?_
          by_cases h0 : i = 0
          · by_cases h1 : L = 77
            · exact .inr (.inl ⟨rfl, by simp [h0], by simp [h1]⟩)
            · by_cases h2 : L = 109
              · exact .inr (.inr (.inl ⟨rfl, by simp [h0], by simp; omega, by simp [h2]⟩))
              · refine .inr (.inr (.inr ⟨rfl, by simp [h0], by simp; omega, by simp; omega, ?_⟩))
                rw [HR.out, decide_eq_false_iff_not]
                intro hh
                have := (hh i hlt).2 h0
                rw [HLL.out] at this
                omega
          · exact .inl ⟨rfl, by simp; omega⟩
      have HOK : Hid (∀ (h : rightF L xs = true ∧ (i = 0 → L = 77 ∨ L = 109)) j, (h : j < l.length) → j < i + 1 → rightF l[j].L l[j].A = true ∧ (j = 0 → l[j].L = 77 ∨ l[j].L = 109)) := by
        intro hh j h hj
        by_cases hji : j = i
        · subst hji; rw [HLL.out, HXS.out]; exact hh
        · exact HN.out j h (by omega)
      rcases hcs with ⟨rfl, hR⟩ | ⟨rfl, h0⟩ | ⟨rfl, h0, h1⟩ | ⟨rfl, h0, h1, h2⟩ | ⟨rfl, h0, h1, h2, hR⟩
      case inl =>
        have HF := Lib.hid hR
        clear hR
        go_wp2_with (go_at_call 32; refine HRt.out.mono ?_; rintro e w1 ⟨rfl, f1⟩; have r1' : w1.cell? ⟨g, off + i * 2, none⟩ = _ := (f1.cell (p := ⟨g, off + i * 2, none⟩) (by show g < _; omega) id).trans r1)
        go_ret
        exact ⟨by rw [HF.out]; rfl, hf.trans f1⟩
      case inr.inr.inr.inr =>
        have HF := Lib.hid hR
        clear hR
        go_wp2_with (go_at_call 32; refine HRt.out.mono ?_; rintro e w1 ⟨rfl, f1⟩; have r1' : w1.cell? ⟨g, off + i * 2, none⟩ = _ := (f1.cell (p := ⟨g, off + i * 2, none⟩) (by show g < _; omega) id).trans r1)
        go_ret
        exact ⟨by rw [HF.out]; rfl, hf.trans f1⟩
      all_goals
        have HH : Hid (i = 0 → L = 77 ∨ L = 109) := by
          unfold Hid
          simp only [beq_iff_eq, beq_eq_false_iff_ne, bne_iff_ne, bne_eq_false_iff_eq, ne_eq] at *
          omega
        go_wp2_with (go_at_call 32; refine HRt.out.mono ?_; rintro e w1 ⟨rfl, f1⟩; have r1' : w1.cell? ⟨g, off + i * 2, none⟩ = _ := (f1.cell (p := ⟨g, off + i * 2, none⟩) (by show g < _; omega) id).trans r1)
        go_roundg (l.length - (i + 1))
        case measure => omega
        case rel => exact ⟨i + 1, by go_num, by omega, HOK.out ⟨HB.out, HH.out⟩, hf.trans f1, rfl⟩
    · have HB : Hid (R = true) := by
        unfold Hid; rw [HR.out, decide_eq_true_iff]
        exact fun j h => HN.out j h (by omega)
      go_wp2
      go_ret
      exact ⟨by rw [HB.out]; rfl, hf⟩
end Go.Proofs.YtchgjjegcoiepaaDoor
