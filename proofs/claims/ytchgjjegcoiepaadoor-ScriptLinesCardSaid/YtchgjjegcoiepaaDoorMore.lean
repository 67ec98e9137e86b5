import Derived.Test.YtchgjjegcoiepaaDoorGroup
namespace Go.Proofs.YtchgjjegcoiepaaDoor
open Go.RowKit

/-- must there be another group?, and where the reader is then. -/
def moreF (s A : ByteArray) (i : Nat) : Bool × Nat :=
  let e := blEnd s i
  if e < s.size ∧ bAt s e = 44 then (true, blEnd s (e + 1)) else (decide (e < s.size) && (decide (0 < A.size) && begF (bAt s e) (bAt A 0)), e)

set_option maxRecDepth 100000 in
set_option maxHeartbeats 2000000 in
theorem more_any (b : Nat) (s A : ByteArray) (i : Nat) (w : World) (h : Rd w b s i) (hb : 14 ≤ b) (hG : TabBl w) (hA : A.size ≤ 100) :
    Calls Tryd.prog 68 #[.pointer (some ⟨b, 0, none⟩), .string A] w fun e w' => e = .returned (.bool (moreF s A i).1) ∧ Rd w' b s (moreF s A i).2 ∧ Fr (One b) w w' := by
  have hbw := h.lt
  have HBl := Lib.hid (Blanks_any b s i w h hb hG)
  have hbd := blEnd_bd s i h.2.1
  obtain ⟨R, hR⟩ : ∃ R, moreF s A i = R := ⟨_, rfl⟩
  rw [hR]
  unfold moreF at hR
  obtain ⟨E, hE⟩ : ∃ E, blEnd s i = E := ⟨_, rfl⟩
  rw [hE] at hR HBl hbd
  dsimp only at hR
  clear hE
  by_cases hlt : E < s.size
  · obtain ⟨c, hc⟩ : ∃ c, bAt s E = c := ⟨_, rfl⟩
    have h256 : c < 256 := hc ▸ bAt_lt s E
    have HPk := Lib.hid (fun wx (hx : Rd wx b s E) => Peek_some b s E wx hx hlt)
    rw [hc] at hR HPk
    clear hc
    by_cases h44 : c = 44
    · rw [if_pos ⟨hlt, h44⟩] at hR
      subst h44
      have HR := Lib.hid hR
      clear hR
      go_enter Tryd.func68, Tryd.ntmps68
      go_wp2_with fail
      refine HBl.out.mono ?_
      rintro e w1 ⟨rfl, hr1, hf1⟩
      have g1 := hG.fr hf1 (by omega) (by unfold One; omega)
      go_wp2_with fail
      refine (HPk.out _ hr1).mono ?_
      rintro e w2 ⟨rfl, n2, rfl⟩
      go_wp2_with fail
      refine (Skip_some b s E _ (hr1.drewN n2) hlt).mono ?_
      rintro e w3 ⟨rfl, hr3, hf3⟩
      have hs1 := hf1.size
      go_wp2_with fail
      refine (Blanks_any b s (E + 1) _ hr3 hb (g1.fr (((Fr.refl w1).drewN n2).trans hf3) (by omega) (by unfold One; omega))).mono ?_
      rintro e w4 ⟨rfl, hr4, hf4⟩
      go_wp2
      go_ret
      rw [← HR.out]
      exact ⟨rfl, hr4, ((hf1.drewN n2).trans hf3).trans hf4⟩
    · rw [if_neg (fun h => h44 h.2)] at hR
      have h44b : ((c : Int) == 44) = false := by simp; omega
      clear h44
      by_cases hA0 : 0 < A.size
      · obtain ⟨k, hk⟩ : ∃ k, bAt A 0 = k := ⟨_, rfl⟩
        have hk256 : k < 256 := hk ▸ bAt_lt A 0
        have hkk : A[0].toNat = k := (bAt_eq A 0 hA0).trans hk
        rw [hk] at hR
        have HBg := Lib.hid (fun w => begins_any c k w h256 hk256)
        have e1 : R = (begF c k, E) := by rw [← hR]; simp [hlt, hA0]
        have HR := Lib.hid e1
        clear hR e1 hk
        obtain ⟨B, hB⟩ : ∃ B, begF c k = B := ⟨_, rfl⟩
        rw [hB] at HBg HR
        clear hB
        go_enter Tryd.func68, Tryd.ntmps68
        go_wp2_with (first | (go_at_call 62; refine HBl.out.mono ?_; rintro e w1 ⟨rfl, hr1, hf1⟩) | (go_at_call 64; refine (HPk.out _ hr1).mono ?_; rintro e w2 ⟨rfl, n2, rfl⟩) | (go_at_call 91; refine (HBg.out _).mono ?_; rintro e w3 ⟨rfl, rfl⟩))
        go_ret
        rw [HR.out]
        exact ⟨rfl, hr1.drewN n2, hf1.drewN n2⟩
      · have e1 : R = (false, E) := by rw [← hR]; simp [hA0]
        have HR := Lib.hid e1
        clear hR e1
        go_enter Tryd.func68, Tryd.ntmps68
        go_wp2_with (first | (go_at_call 62; refine HBl.out.mono ?_; rintro e w1 ⟨rfl, hr1, hf1⟩) | (go_at_call 64; refine (HPk.out _ hr1).mono ?_; rintro e w2 ⟨rfl, n2, rfl⟩))
        go_ret
        rw [HR.out]
        exact ⟨rfl, hr1.drewN n2, hf1.drewN n2⟩
  · have HPk := Lib.hid (fun wx (hx : Rd wx b s E) => Peek_end b s E wx hx hlt)
    have e1 : R = (false, E) := by rw [← hR, if_neg (fun h => hlt h.1)]; simp [hlt]
    have HR := Lib.hid e1
    clear hR e1
    go_enter Tryd.func68, Tryd.ntmps68
    go_wp2_with (first | (go_at_call 62; refine HBl.out.mono ?_; rintro e w1 ⟨rfl, hr1, hf1⟩) | (go_at_call 64; refine (HPk.out _ hr1).mono ?_; rintro e w2 ⟨rfl, n2, rfl⟩))
    go_ret
    rw [HR.out]
    exact ⟨rfl, hr1.drewN n2, hf1.drewN n2⟩
end Go.Proofs.YtchgjjegcoiepaaDoor
