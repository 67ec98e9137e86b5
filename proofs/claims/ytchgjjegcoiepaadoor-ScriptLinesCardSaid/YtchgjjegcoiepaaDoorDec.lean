import Derived.Test.YtchgjjegcoiepaaDoorScan
import Derived.WalkMore
namespace Go.Proofs.YtchgjjegcoiepaaDoor
open Go.RowKit

/-- a byte's kind: a digit, a point, a letter e, a sign; 4: none of a number's. -/
def kd (c : Nat) : Nat := if 48 ≤ c ∧ c ≤ 57 then 0 else if c = 46 then 1 else if c = 101 ∨ c = 69 then 2 else if c = 43 ∨ c = 45 then 3 else 4
def kdI (c : Nat) : Int := if kd c = 4 then -1 else kd c

theorem kind_any (c : Nat) (w : World) : Calls Tryd.prog 143 #[.int .u8 c] w fun e w' => e = .returned (.int .i64 (kdI c)) ∧ w = w' := by
  have H : Hid (kdI c = if 48 ≤ c ∧ c ≤ 57 then 0 else if c = 46 then 1 else if c = 101 ∨ c = 69 then 2 else if c = 43 ∨ c = 45 then 3 else -1) := by
    unfold Hid kdI kd; (repeat' split) <;> simp_all
  by_cases h1 : 48 ≤ c
  · by_cases h2 : c ≤ 57
    · rw [if_pos ⟨h1, h2⟩] at H
      go_enter Tryd.func143, Tryd.ntmps143
      go_wp2
      go_ret
      exact ⟨by rw [H.out]; rfl, rfl⟩
    · rw [if_neg (by omega)] at H
      by_cases h3 : c = 101
      · subst h3
        go_enter Tryd.func143, Tryd.ntmps143
        go_wp2
        go_ret
        exact ⟨by rw [H.out]; rfl, rfl⟩
      · have h3' : ((c : Int) == 101) = false := by simp; omega
        by_cases h4 : c = 69
        · subst h4
          go_enter Tryd.func143, Tryd.ntmps143
          go_wp2
          go_ret
          exact ⟨by rw [H.out]; rfl, rfl⟩
        · have h4' : ((c : Int) == 69) = false := by simp; omega
          have h5' : ((c : Int) == 46) = false := by simp; omega
          have h6' : ((c : Int) == 43) = false := by simp; omega
          have h7' : ((c : Int) == 45) = false := by simp; omega
          rw [if_neg (by omega), if_neg (by omega), if_neg (by omega)] at H
          clear h3 h4
          go_enter Tryd.func143, Tryd.ntmps143
          go_wp2
          go_ret
          exact ⟨by rw [H.out]; rfl, rfl⟩
  · rw [if_neg (by omega)] at H
    by_cases h3 : c = 46
    · subst h3
      go_enter Tryd.func143, Tryd.ntmps143
      go_wp2
      go_ret
      exact ⟨by rw [H.out]; rfl, rfl⟩
    · have h3' : ((c : Int) == 46) = false := by simp; omega
      have h4' : ((c : Int) == 101) = false := by simp; omega
      have h5' : ((c : Int) == 69) = false := by simp; omega
      rw [if_neg (by omega), if_neg (by omega)] at H
      by_cases h6 : c = 43
      · subst h6
        go_enter Tryd.func143, Tryd.ntmps143
        go_wp2
        go_ret
        exact ⟨by rw [H.out]; rfl, rfl⟩
      · have h6' : ((c : Int) == 43) = false := by simp; omega
        by_cases h7 : c = 45
        · subst h7
          go_enter Tryd.func143, Tryd.ntmps143
          go_wp2
          go_ret
          exact ⟨by rw [H.out]; rfl, rfl⟩
        · have h7' : ((c : Int) == 45) = false := by simp; omega
          rw [if_neg (by omega)] at H
          clear h3 h6 h7
          go_enter Tryd.func143, Tryd.ntmps143
          go_wp2
          go_ret
          exact ⟨by rw [H.out]; rfl, rfl⟩

def nxtL : List Nat := [2,3,0,1, 2,3,0,0, 2,4,6,0, 5,0,0,0, 5,0,6,0, 5,0,6,0, 8,0,0,7, 8,0,0,0, 8,0,0,0]
def nxt (st k : Nat) : Nat := nxtL.getD (st * 4 + k) 0
def endL : List Nat := [0, 0, 1, 0, 1, 1, 0, 0, 1]
def TabNx (w : World) : Prop := (∀ j : Nat, j < 36 → w.cell? ⟨6, j, none⟩ = some (.int .i64 (nxtL.getD j 0 : Nat))) ∧ ∀ j : Nat, j < 9 → w.cell? ⟨7, j, none⟩ = some (.int .i64 (endL.getD j 0 : Nat))
theorem TabNx.fr {P : Nat → Prop} {w w' : World} (h : TabNx w) (f : Fr P w w') (h3 : 7 < w.heap.size) (hP : ¬ P 6) (hP' : ¬ P 7) : TabNx w' :=
  ⟨fun j hj => (f.cell (p := ⟨6, j, none⟩) (show 6 < _ by omega) hP).trans (h.1 j hj), fun j hj => (f.cell (p := ⟨7, j, none⟩) h3 hP').trans (h.2 j hj)⟩
theorem nxt_lt : ∀ st k : Nat, nxt st k < 9 := by
  have h : ∀ j, nxtL.getD j 0 < 9 := by
    intro j
    by_cases hj : j < 36
    · revert j; decide
    · rw [List.getD, List.getElem?_eq_none (by simp [nxtL]; omega)]; decide
  exact fun st k => h _

/-- does the scan stop at a byte of kind k, in state st? -/
def stops (signed : Bool) (st k : Nat) : Bool := k == 4 || (k == 3 && st == 0 && !signed) || nxt st k == 0
/-- where the scan stops, and in which state. -/
def scanGo (s : ByteArray) (signed : Bool) (i st : Nat) : Nat × Nat :=
  if i < s.size ∧ stops signed st (kd (bAt s i)) = false then scanGo s signed (i + 1) (nxt st (kd (bAt s i))) else (i, st)
termination_by s.size - i
theorem kd_lt (c : Nat) : kd c < 5 := by unfold kd; (repeat' split) <;> omega

theorem decide_one (n : Nat) : decide (n = 1) = ((n : Int) == 1) := by rw [Bool.eq_iff_iff]; simp; omega
theorem Scan_any (s : ByteArray) (i : Nat) (signed : Bool) (w : World) (hi : i ≤ s.size) (hs : s.size ≤ 140737488351232) (hT : TabNx w) :
    Calls Tryd.prog 120 #[.string s, .int .i64 i, .bool signed] w fun e w' => e = .returned (.tuple #[.int .i64 (scanGo s signed i 0).1, .bool (decide (endL.getD (scanGo s signed i 0).2 0 = 1))]) ∧ ∃ n, w' = w.drewN n := by
  obtain ⟨R, hR⟩ : ∃ R, scanGo s signed i 0 = R := ⟨_, rfl⟩
  rw [hR]
  have HR := Lib.hid hR; clear hR
  have hdi : decide (s.size < i) = false := by simp; omega
  have hdj : decide ((i : Int) < 0) = false := by simp
  go_enter Tryd.func120, Tryd.ntmps120
  go_wp2
  go_step3
  go_wp2
  go_step3
  go_wp2
  go_loop [1, 8] (fun a b => ∃ at_ st : Nat, at_ ≤ s.size ∧ st < 9 ∧ a = .int .i64 at_ ∧ b = .int .i64 st ∧ scanGo s signed at_ st = R) (fun a _ => s.size - (intOf a).toNat)
  case atStart => exact ⟨i, 0, hi, by omega, rfl, rfl, HR.out⟩
  case round =>
    obtain ⟨a, st, ha, hst, rfl, rfl, hgo⟩ := hrel
    have HG := Lib.hid hgo; clear hgo
    by_cases hlt : a < s.size
    · obtain ⟨c, hc⟩ : ∃ c, bAt s a = c := ⟨_, rfl⟩
      have hb : s[a].toNat = c := (bAt_eq s a hlt).trans hc
      have hK := kind_any c w
      have HC := Lib.hid hc; clear hc
      obtain ⟨k, hk⟩ : ∃ k, kd c = k := ⟨_, rfl⟩
      have hk5 : k < 5 := hk ▸ kd_lt c
      unfold kdI at hK
      rw [hk] at hK
      have HKd := Lib.hid hk; clear hk
      by_cases h4 : k = 4
      · rw [if_pos h4] at hK
        have HX : Hid (scanGo s signed a st = (a, st)) := by
          unfold Hid; rw [scanGo, if_neg]; rw [HC.out, HKd.out, h4]; simp [stops]
        have HK := Lib.hid hK; clear hK
        clear h4
        have he := hT.2 st hst
        obtain ⟨N, hN⟩ : ∃ N, endL.getD st 0 = N := ⟨_, rfl⟩
        rw [hN] at he
        have HN := Lib.hid hN; clear hN
        go_wp2_with (go_at_call 143; refine HK.out.mono ?_; rintro e w' ⟨rfl, rfl⟩)
        go_quiet (fail)
        go_wp2
        rw [Exit.noGoto_ret]
        go_ret2
        exact ⟨by rw [← HG.out, HX.out, HN.out]; rw [decide_one]; rfl, _, rfl⟩
      · rw [if_neg h4] at hK
        have HK := Lib.hid hK; clear hK
        have hk4 : k < 4 := by omega
        clear h4
        have hcell := hT.1 (st * 4 + k) (by omega)
        obtain ⟨N, hN⟩ : ∃ N, nxtL.getD (st * 4 + k) 0 = N := ⟨_, rfl⟩
        rw [hN] at hcell
        have hN' : nxt st k = N := hN
        have hN9 : N < 9 := hN' ▸ nxt_lt st k
        have HN := Lib.hid hN'; clear hN hN'
        have hf : (((k : Int) == 3) = false) ∨ (((k : Int) == 3) = true ∧ ((st : Int) == 0) = false) ∨ (((k : Int) == 3) = true ∧ ((st : Int) == 0) = true ∧ signed = true) ∨ (((k : Int) == 3) = true ∧ ((st : Int) == 0) = true ∧ signed = false) := by
          by_cases h1 : k = 3 <;> by_cases h2 : st = 0 <;> cases signed <;> simp [h1, h2]; all_goals omega
        have HF : Hid (stops signed st k = ((((k : Int) == 3) && ((st : Int) == 0) && !signed) || N == 0)) := by
          have e1 : (k == 4) = false := by simp; omega
          have e2 : (k == 3) = ((k : Int) == 3) := by rw [Bool.eq_iff_iff]; simp; omega
          have e3 : (st == 0) = ((st : Int) == 0) := by rw [Bool.eq_iff_iff]; simp
          unfold Hid stops; rw [HN.out, e1, e2, e3]; rfl
        have HS : Hid (stops signed st k = true → scanGo s signed a st = (a, st)) := by
          unfold Hid; intro h; rw [scanGo, if_neg]; rw [HC.out, HKd.out, h]; simp
        have HGo : Hid (stops signed st k = false → scanGo s signed a st = scanGo s signed (a + 1) N) := by
          unfold Hid; intro h; rw [scanGo, if_pos ⟨hlt, by rw [HC.out, HKd.out, h]⟩, HC.out, HKd.out, HN.out]
        have he := hT.2 st hst
        obtain ⟨M, hM⟩ : ∃ M, endL.getD st 0 = M := ⟨_, rfl⟩
        rw [hM] at he
        have HM := Lib.hid hM; clear hM
        clear hT HKd
        by_cases hN0 : N = 0
        · have HX : Hid (scanGo s signed a st = (a, st)) := HS.out (by rw [HF.out, hN0]; simp)
          have hN0' : ((N : Int) == 0) = true := by simp [hN0]
          clear HF HS HGo HN hN0
          rcases hf with h1 | ⟨h1, h2⟩ | ⟨h1, h2, rfl⟩ | ⟨h1, h2, rfl⟩
          all_goals
            go_wp2_with (go_at_call 143; refine HK.out.mono ?_; rintro e w' ⟨rfl, rfl⟩)
            go_quiet (fail)
            go_wp2
            rw [Exit.noGoto_ret]
            go_ret2
            exact ⟨by rw [← HG.out, HX.out, HM.out]; rw [decide_one]; rfl, _, rfl⟩
        · have hN0' : ((N : Int) == 0) = false := by simp [hN0]
          have hN0b : (N == 0) = false := by simp [hN0]
          rcases hf with h1 | ⟨h1, h2⟩ | ⟨h1, h2, h3⟩ | ⟨h1, h2, h3⟩
          · have HX : Hid (scanGo s signed a st = scanGo s signed (a + 1) N) := HGo.out (by rw [HF.out, h1, hN0b]; rfl)
            clear HF HS HGo HN hN0 hN0b
            go_wp2_with (go_at_call 143; refine HK.out.mono ?_; rintro e w' ⟨rfl, rfl⟩)
            go_round
            case rel => exact ⟨a + 1, N, by omega, hN9, by go_num, rfl, by rw [← HX.out]; exact HG.out⟩
            case measure => simp [intOf]; omega
          · have HX : Hid (scanGo s signed a st = scanGo s signed (a + 1) N) := HGo.out (by rw [HF.out, h1, h2, hN0b]; rfl)
            clear HF HS HGo HN hN0 hN0b
            go_wp2_with (go_at_call 143; refine HK.out.mono ?_; rintro e w' ⟨rfl, rfl⟩)
            go_round
            case rel => exact ⟨a + 1, N, by omega, hN9, by go_num, rfl, by rw [← HX.out]; exact HG.out⟩
            case measure => simp [intOf]; omega
          · have HX : Hid (scanGo s signed a st = scanGo s signed (a + 1) N) := HGo.out (by rw [HF.out, h1, h2, h3, hN0b]; rfl)
            clear HF HS HGo HN hN0 hN0b
            subst h3
            go_wp2_with (go_at_call 143; refine HK.out.mono ?_; rintro e w' ⟨rfl, rfl⟩)
            go_round
            case rel => exact ⟨a + 1, N, by omega, hN9, by go_num, rfl, by rw [← HX.out]; exact HG.out⟩
            case measure => simp [intOf]; omega
          · have HX : Hid (scanGo s signed a st = (a, st)) := HS.out (by rw [HF.out, h1, h2, h3]; rfl)
            clear HF HS HGo HN hN0 hN0b
            subst h3
            go_wp2_with (go_at_call 143; refine HK.out.mono ?_; rintro e w' ⟨rfl, rfl⟩)
            go_quiet (fail)
            go_wp2
            rw [Exit.noGoto_ret]
            go_ret2
            exact ⟨by rw [← HG.out, HX.out, HM.out]; rw [decide_one]; rfl, _, rfl⟩
    · have HX : Hid (scanGo s signed a st = (a, st)) := by unfold Hid; rw [scanGo, if_neg (by omega)]
      have he := hT.2 st hst
      obtain ⟨M, hM⟩ : ∃ M, endL.getD st 0 = M := ⟨_, rfl⟩
      rw [hM] at he
      have HM := Lib.hid hM; clear hM
      clear hT
      go_wp2_with fail
      go_quiet (fail)
      go_wp2
      rw [Exit.noGoto_ret]
      go_ret2
      exact ⟨by rw [← HG.out, HX.out, HM.out]; rw [decide_one]; rfl, _, rfl⟩
end Go.Proofs.YtchgjjegcoiepaaDoor
