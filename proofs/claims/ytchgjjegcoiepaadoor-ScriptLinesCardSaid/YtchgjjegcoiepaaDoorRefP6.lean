/- ref06.Print: the text of right commands. -/
import Derived.Test.YtchgjjegcoiepaaDoorJoin
import Derived.Test.YtchgjjegcoiepaaDoorRefP4
namespace Go.Proofs.YtchgjjegcoiepaaDoor
open Go.RowKit

theorem cmd_len (c : Cmd) (h : rightP c.L c.A = true) : (cmdB c).length ≤ 300 := cmdB_length h
theorem prnt_take_len (l : List Cmd) (h : ∀ c ∈ l, rightP c.L c.A = true) : ∀ i, (prntL (l.take i)).length ≤ 300 * i
  | 0 => by simp [prntL]
  | i + 1 => by
    have ih := prnt_take_len l h i
    by_cases hi : i < l.length
    · rw [List.take_succ_eq_append_getElem hi, prntL_snoc, List.length_append]
      have := cmd_len l[i] (h _ (List.getElem_mem hi))
      omega
    · rw [List.take_of_length_le (by omega)]
      rw [List.take_of_length_le (by omega)] at ih
      omega
theorem str_of {S : ByteArray} {L : List UInt8} (h : S.data.toList = L) : S = ⟨L.toArray⟩ := by
  subst h; rfl

set_option maxRecDepth 200000 in
set_option maxHeartbeats 4000000 in
theorem Print6_any (l : List Cmd) (lv : Value) (w : World) (h : SlCa w lv l) (hR : ∀ c ∈ l, c.L < 256 ∧ rightP c.L c.A = true) (hl : l.length ≤ 1000) :
    Calls Tryd.prog 14 #[lv] w fun e w' => e = .returned (.string ⟨(prntL l).toArray⟩) ∧ Fr No w w' := by
  obtain ⟨A, cap, rfl, _⟩ := id h
  obtain ⟨R, hRR⟩ : ∃ R : ByteArray, (⟨(prntL l).toArray⟩ : ByteArray) = R := ⟨_, rfl⟩
  rw [hRR]
  have HRR := Lib.hid hRR
  clear hRR
  go_enter Tryd.func14, Tryd.ntmps14
  go_wp2
  go_loopg [3, 4] l.length (fun gk u3 u4 wx => ∃ (i : Nat) (S : ByteArray), u3 = .string S ∧ u4 = .int .i64 i ∧ i ≤ l.length ∧ S.data.toList = prntL (l.take i) ∧ Fr No w wx ∧ gk = l.length - i)
  case atStart => exact ⟨0, ⟨#[]⟩, rfl, rfl, by omega, by simp [prntL], Fr.refl w, rfl⟩
  case round =>
    obtain ⟨i, S, rfl, rfl, hi, hS, hf, rfl⟩ := hrel
    have hSz : S.size ≤ 300 * i := by
      have := prnt_take_len l (fun c hc => (hR c hc).2) i
      rw [← hS] at this
      exact this
    have HS := Lib.hid hS
    clear hS
    by_cases hlt : i < l.length
    · obtain ⟨g, off, rfl, ht, hc⟩ := h.parts (by omega)
      obtain ⟨c1, A2, cap2, c2, hav⟩ := hc i hlt
      have r1 : wr.cell? ⟨g, off + i * 2, none⟩ = _ := (hf.cell (p := ⟨g, off + i * 2, none⟩) ht.lt id).trans c1
      have hav' := hav.fr hf (fun k _ => id)
      obtain ⟨hL256, hrt⟩ := hR l[i] (List.getElem_mem hlt)
      obtain ⟨L, hLL⟩ : ∃ L, l[i].L = L := ⟨_, rfl⟩
      obtain ⟨xs, hxs⟩ : ∃ xs, l[i].A = xs := ⟨_, rfl⟩
      rw [hLL] at r1 hL256
      rw [hxs] at hav' c2
      rw [hLL, hxs] at hrt
      have HSN : Hid (prntL (l.take (i + 1)) = prntL (l.take i) ++ cmdB ⟨L, xs⟩) := by
        unfold Hid
        rw [List.take_succ_eq_append_getElem hlt, prntL_snoc, ← hLL, ← hxs]
      obtain ⟨L', SG, hOf, hSg, hxl, hS7, hargs⟩ := right_parts hrt
      obtain ⟨_, _, _, _, _, _, _, _, _, hlet⟩ := let_some hL256 hOf
      have hx7 : xs.length ≤ 7 := by omega
      have HCB : Hid (cmdB ⟨L, xs⟩ = UInt8.ofNat L :: argsB SG 0 xs) := by unfold Hid; rw [cmdB_eq, ← hSg]
      have HARG := Lib.hid hargs
      have HLET := Lib.hid hlet
      have HXL := Lib.hid hxl
      have hcv := one_byte wr (L : Int) L hL256 rfl
      obtain ⟨T, hT⟩ : ∃ T : ByteArray, (⟨#[UInt8.ofNat L]⟩ : ByteArray) = T := ⟨_, rfl⟩
      have hT1 : T.size = 1 := by rw [← hT]; rfl
      rw [hT] at hcv
      have HT := Lib.hid hT
      have HLL := Lib.hid hLL
      have HA := Lib.hid (fun w => arc_any L w)
      obtain ⟨arc, harc⟩ : ∃ B, arcF L = B := ⟨_, rfl⟩
      rw [harc] at HA
      have HARC := Lib.hid harc
      have r2 : ∀ wx, Fr No wr wx → wx.cell? ⟨g, off + i * 2 + 1, none⟩ = some (.slice A2 xs.length cap2) := fun wx fx => ((hf.trans fx).cell (p := ⟨g, off + i * 2 + 1, none⟩) ht.lt id).trans c2
      have r1' : ∀ wx, Fr No wr wx → wx.cell? ⟨g, off + i * 2, none⟩ = some (.int .u8 L) := fun wx fx => (fx.cell (p := ⟨g, off + i * 2, none⟩) (by have := ht.lt; have := hf.size; show g < _; omega) id).trans r1
      have R1 := Lib.hid r1'
      have R2 := Lib.hid r2
      clear hT hc c1 c2 hav hLL hxs hargs hlet hxl hOf hrt harc r2 r1'
      obtain ⟨wo, rfl⟩ : ∃ wo : World, wo = wr := ⟨_, rfl⟩
      go_wp2
      go_loopg [3, 5, 6] xs.length (fun gk u3 u5 u6 wx => ∃ (k : Nat) (S2 : ByteArray), u3 = .string S2 ∧ u5 = .int .i64 k ∧ k ≤ xs.length ∧ S2.size ≤ 300 * i + 1 + 39 * k ∧ S2.data.toList = prntL (l.take i) ++ (UInt8.ofNat L :: argsB SG 0 (xs.take k)) ∧ Fr No wo wx ∧ gk = xs.length - k)
      case atStart =>
        refine ⟨0, _, rfl, rfl, by omega, ?_, ?_, (Fr.refl wo).alloc _, rfl⟩
        · rw [ByteArray.size_append]; omega
        · rw [data_append, HS.out, ← HT.out]; simp [argsB]
      case round =>
        obtain ⟨k, S2, rfl, rfl, hk, hS2z, hS2, hf2, rfl⟩ := hrel
        have HS2 := Lib.hid hS2
        have rr1 := R1.out wr hf2
        have rr2 := R2.out wr hf2
        clear hS2
        by_cases hkl : k < xs.length
        · obtain ⟨g2, off2, rfl, ht2, hc2⟩ := hav'.parts (by omega)
          have rc : wr.cell? ⟨g2, off2 + k, none⟩ = _ := (hf2.cell (p := ⟨g2, off2 + k, none⟩) ht2.lt id).trans (hc2 k hkl)
          have hak := HARG.out k hkl
          have hlk := (HLET.out k (by have := HXL.out; omega)).2.2.1
          have HSTEP : Hid (argsB SG 0 (xs.take (k + 1)) = argsB SG 0 (xs.take k) ++ (32 :: prL (scl SG k xs[k]))) := by
            unfold Hid
            rw [List.take_succ_eq_append_getElem hkl, argsB_snoc, List.length_take, Nat.min_eq_left (by omega), Nat.zero_add]
          obtain ⟨x, hx⟩ : ∃ x, xs[k] = x := ⟨_, rfl⟩
          rw [hx] at rc hak HSTEP
          have hsb2 := scl_bd hak
          have hyl := prL_length _ hsb2.1 hsb2.2
          obtain ⟨y, hy⟩ : ∃ y, scl SG k x = y := ⟨_, rfl⟩
          rw [hy] at hsb2 HSTEP hyl
          have hPs : (prF y).size ≤ 38 := hyl
          have HP : Hid (prF y = ⟨(prL y).toArray⟩) := rfl
          have HY := Lib.hid (Print4_any y hsb2.1 hsb2.2)
          obtain ⟨Y, hYY⟩ : ∃ Y, prF y = Y := ⟨_, rfl⟩
          have HYL : Hid (Y.data.toList = prL y) := by unfold Hid; rw [← hYY]; simp [prF]
          rw [hYY] at hPs HY HP
          have hmul : (arc = false ∧ x = y) ∨ (arc = true ∧ ((k : Int) == 3) = true ∧ IntKind.i64.wrap (x * 65536) = y) ∨ (arc = true ∧ ((k : Int) == 3) = false ∧ ((k : Int) == 4) = true ∧ IntKind.i64.wrap (x * 65536) = y) ∨ (arc = true ∧ ((k : Int) == 3) = false ∧ ((k : Int) == 4) = false ∧ x = y) := by
            unfold scl at hy
            rw [HARC.out] at hlk
            by_cases hq : bAt SG k = 103 ∨ bAt SG k = 102
            · rw [if_pos hq] at hy
              obtain ⟨ha, h34⟩ := hlk.1 hq
              have hw : IntKind.i64.wrap (x * 65536) = y := by rw [IntKind.wrap_i64]; omega
              rcases h34 with h3 | h4
              · exact .inr (.inl ⟨ha, by simp [h3], hw⟩)
              · exact .inr (.inr (.inl ⟨ha, by simp; omega, by simp [h4], hw⟩))
            · rw [if_neg hq] at hy
              cases arc with
              | false => exact .inl ⟨rfl, hy⟩
              | true =>
                have : ¬ (k = 3 ∨ k = 4) := fun h' => hq (hlk.2 ⟨rfl, h'⟩)
                exact .inr (.inr (.inr ⟨rfl, by simp; omega, by simp; omega, hy⟩))
          have HB2 := Lib.hid hsb2
          clear hx hy hak hlk hyl hYY hc2 hsb2
          rcases hmul with ⟨rfl, rfl⟩ | ⟨rfl, h3, hw⟩ | ⟨rfl, h3, h4, hw⟩ | ⟨rfl, h3, h4, rfl⟩
          all_goals
            go_wp2_with (first | (go_at_call 35; refine (HA.out _).mono ?_; rintro e w' ⟨rfl, rfl⟩) | (go_at_call 36; refine (HY.out _).mono ?_; rintro e w2 ⟨rfl, f2⟩))
            go_roundg (xs.length - (k + 1))
            case measure => omega
            case rel =>
              refine ⟨k + 1, _, rfl, by go_num, by omega, ?_, ?_, hf2.trans f2, rfl⟩
              · simp only [ByteArray.size_append]
                have e2 : (⟨#[32]⟩ : ByteArray).size = 1 := rfl
                omega
              · rw [data_append, data_append, HS2.out, HYL.out, HSTEP.out]; simp
        · have hkx : k = xs.length := by omega
          go_wp2
          go_roundg (l.length - (i + 1))
          case measure => omega
          case rel =>
            refine ⟨i + 1, S2, rfl, by go_num, by omega, ?_, hf.trans hf2, rfl⟩
            rw [HS2.out, HSN.out, HCB.out, show xs.take k = xs from List.take_of_length_le (by omega)]
    · have HE : Hid (S = R) := by
        unfold Hid
        rw [str_of HS.out, List.take_of_length_le (by omega)]
        exact HRR.out
      go_wp2
      go_ret
      exact ⟨by rw [HE.out]; rfl, hf⟩
end Go.Proofs.YtchgjjegcoiepaaDoor
