import Derived.Test.YtchgjjegcoiepaaDoorOf
namespace Go.Proofs.YtchgjjegcoiepaaDoor
open Go.RowKit

theorem info2 : (Tryd.prog.info? 2).map (fun i => (i.zero, i.size, i.bytes)) = some (some (.int .i64 0), 1, 8) := by kernel_rfl
def i64s (l : List Int) : List Value := l.map fun n => Value.int .i64 n
theorem i64s_length (l : List Int) : (i64s l).length = l.length := by simp [i64s]
theorem i64s_snoc (l : List Int) (n : Int) : i64s (l ++ [n]) = i64s l ++ [.int .i64 n] := by simp [i64s]

/-- a group: its numbers, the error, where the reader is then. -/
def grpGo (s A : ByteArray) (k i : Nat) (acc : List Int) : List Int × Nat × Nat :=
  if k < A.size then
    let i' := if 0 < k then gapEnd s i else i
    if bAt A k = 103 ∧ ¬ (0 < k ∧ i < gapEnd s i) then ([], 3, i')
    else
      let r := argF s i' (bAt A k)
      if r.2.1 ≠ 0 then ([], r.2.1, r.2.2) else grpGo s A (k + 1) r.2.2 (acc ++ [r.1])
  else (acc, 0, i)
termination_by A.size - k
def GrpPost (b : Nat) (s : ByteArray) (w : World) (r : List Int × Nat × Nat) (e : Ending) (w' : World) : Prop :=
  ∃ sv, e = .returned (.tuple #[sv, .int .i64 r.2.1]) ∧ Ow w' w.heap.size 2 sv (i64s r.1) ∧ Rd w' b s r.2.2 ∧ Fr (One b) w w'

set_option maxRecDepth 100000 in
set_option maxHeartbeats 2000000 in
theorem group_any (b : Nat) (s A : ByteArray) (i : Nat) (w : World) (h : Rd w b s i) (hb : 14 ≤ b) (hG : TabBl w) (hT : TabNx w) (hA : A.size ≤ 100) :
    Calls Tryd.prog 67 #[.pointer (some ⟨b, 0, none⟩), .string A] w (GrpPost b s w (grpGo s A 0 i [])) := by
  have hbw := h.lt
  obtain ⟨R, hR⟩ : ∃ R, grpGo s A 0 i [] = R := ⟨_, rfl⟩
  rw [hR]
  have HR := Lib.hid hR; clear hR
  obtain ⟨base, hbase⟩ : ∃ base, w.heap.size = base := ⟨_, rfl⟩
  have HBase := Lib.hid hbase
  rw [hbase] at hbw
  clear hbase
  go_enter Tryd.func67, Tryd.ntmps67
  go_wp2
  go_loopg [6, 13] A.size (fun gk uo uk wx => ∃ (k j : Nat) (acc : List Int) (sv : Value), k ≤ A.size ∧ uo = sv ∧ uk = .int .i64 k ∧ grpGo s A k j acc = R ∧ Ow wx base 2 sv (i64s acc) ∧ Rd wx b s j ∧ Fr (One b) w wx ∧ acc.length = k ∧ gk = A.size - k)
  case atStart => exact ⟨0, i, [], _, by omega, rfl, rfl, HR.out, Ow.nil _ _ _, h, Fr.refl w, rfl, rfl⟩
  case round =>
    obtain ⟨k, j, acc, sv, hk, rfl, rfl, hgo, ho, hr, hf, hlen, rfl⟩ := hrel
    have hws : base ≤ wr.heap.size := by have := hf.size; have := HBase.out; omega
    have HG := Lib.hid hgo; clear hgo
    have HL := Lib.hid hlen; clear hlen
    obtain ⟨Aa, cap, rfl, hcap⟩ := ho.form
    rw [i64s_length, HL.out] at ho ⊢
    clear hcap
    by_cases hlt : k < A.size
    · obtain ⟨c, hc⟩ : ∃ c, bAt A k = c := ⟨_, rfl⟩
      have h256 : c < 256 := hc ▸ bAt_lt A k
      have hbb : A[k].toNat = c := (bAt_eq A k hlt).trans hc
      have HS : grpGo s A k j acc = R := HG.out
      rw [grpGo, if_pos hlt, hc] at HS
      dsimp only at HS
      clear hc
      have g0 := hG.fr hf (by have := HBase.out; omega) (by unfold One; omega)
      have t0 := hT.fr hf (by have := HBase.out; omega) (by unfold One; omega) (by unfold One; omega)
      by_cases hk0 : 0 < k
      · rw [if_pos hk0] at HS
        have HGap := Lib.hid (Gap_any b s j wr hr hb g0)
        obtain ⟨G, hGG⟩ : ∃ G, gapEnd s j = G := ⟨_, rfl⟩
        obtain ⟨B, hB⟩ : ∃ B : Bool, decide (j < G) = B := ⟨_, rfl⟩
        rw [hGG] at HS HGap
        rw [hB] at HGap
        have HB := Lib.hid hB
        clear hB hGG
        by_cases hstop : c = 103 ∧ ¬ (0 < k ∧ j < G)
        · rw [if_pos hstop] at HS
          have HS := Lib.hid HS
          have hBf : B = false := by rw [← HB.out]; simp only [decide_eq_false_iff_not]; intro h; exact hstop.2 ⟨hk0, h⟩
          obtain ⟨h103, _⟩ := hstop
          subst h103
          subst hBf
          go_wp2_with (go_at_call 89; refine HGap.out.mono ?_; rintro e w1 ⟨rfl, hr1, hf1⟩)
          go_ret2
          rw [← HS.out]
          exact ⟨_, rfl, Ow.nil _ _ _, hr1, hf.trans hf1⟩
        · rw [if_neg hstop] at HS
          have hcB : ((c : Int) == 103) = false ∨ (((c : Int) == 103) = true ∧ B = true) := by
            by_cases h103 : c = 103
            · refine .inr ⟨by simp [h103], ?_⟩
              rw [← HB.out, decide_eq_true_iff]
              exact Decidable.byContradiction fun h => hstop ⟨h103, fun h' => h h'.2⟩
            · exact .inl (by simp; omega)
          clear hstop
          obtain ⟨⟨r1, r2, r3⟩, hrr⟩ : ∃ r : Int × Nat × Nat, argF s G c = r := ⟨_, rfl⟩
          have HArg := Lib.hid (fun wx (hx : Rd wx b s G) (ht : TabNx wx) => argument_any b s G c wx hx hb ht h256)
          rw [hrr] at HS HArg
          dsimp only at HS HArg
          clear hrr
          by_cases hr2 : r2 = 0
          · rw [if_neg (by simp [hr2])] at HS
            have HS := Lib.hid HS
            have hr2b : ((r2 : Int) != 0) = false := by simp [hr2]
            clear hr2
            rcases hcB with hc1 | ⟨hc1, rfl⟩
            all_goals
              go_wp2_with (first | (go_at_call 89; refine HGap.out.mono ?_; rintro e w1 ⟨rfl, hr1, hf1⟩; have t1 := t0.fr hf1 (by omega) (by unfold One; omega) (by unfold One; omega); have ho1 := ho.frb hf1 (by unfold One; omega); have hs1 := hf1.size) | (go_at_call 90; refine (HArg.out _ (by assumption) (by assumption)).mono ?_; rintro e w2 ⟨rfl, hr2', hf2⟩; have hoX := ho1.frb hf2 (by unfold One; omega); have hs2 := hf2.size) | (at_builtin; refine wpList_app1 rfl _ _ 58 rfl base 2 (.int .i64 0) 8 Tryd.underlying58 info2 rfl _ k (i64s acc) (by rw [i64s_length]; exact HL.out) _ rfl (by exact hoX) rfl rfl (by omega) (by omega) (by omega) ?_; intro A' cap' w3 o' f'))
              go_roundg (A.size - (k + 1))
              case measure => omega
              case rel => exact ⟨k + 1, r3, acc ++ [r1], _, by omega, rfl, by go_num, HS.out, by rw [i64s_snoc]; exact o', hr2'.fr f' (by omega), ((hf.trans hf1).trans hf2).then f' (by have := HBase.out; intro i h1 h2; omega), by rw [List.length_append, HL.out]; rfl, rfl⟩
          · rw [if_pos hr2] at HS
            have HS := Lib.hid HS
            have hr2b : ((r2 : Int) != 0) = true := by simp; omega
            clear hr2
            rcases hcB with hc1 | ⟨hc1, rfl⟩
            all_goals
              go_wp2_with (first | (go_at_call 89; refine HGap.out.mono ?_; rintro e w1 ⟨rfl, hr1, hf1⟩; have t1 := t0.fr hf1 (by omega) (by unfold One; omega) (by unfold One; omega)) | (go_at_call 90; refine (HArg.out _ (by assumption) (by assumption)).mono ?_; rintro e w2 ⟨rfl, hr2', hf2⟩))
              go_ret2
              rw [← HS.out]
              exact ⟨_, rfl, Ow.nil _ _ _, hr2', (hf.trans hf1).trans hf2⟩
      · have hk00 : k = 0 := by omega
        subst hk00
        rw [if_neg hk0] at HS
        by_cases h103 : c = 103
        · rw [if_pos ⟨h103, by omega⟩] at HS
          have HS := Lib.hid HS
          subst h103
          clear hk0
          go_wp2_with fail
          go_ret2
          rw [← HS.out]
          exact ⟨_, rfl, Ow.nil _ _ _, hr, hf⟩
        · rw [if_neg (by omega)] at HS
          have hc1 : ((c : Int) == 103) = false := by simp; omega
          clear h103 hk0
          obtain ⟨⟨r1, r2, r3⟩, hrr⟩ : ∃ r : Int × Nat × Nat, argF s j c = r := ⟨_, rfl⟩
          have HArg := Lib.hid (fun wx (hx : Rd wx b s j) (ht : TabNx wx) => argument_any b s j c wx hx hb ht h256)
          rw [hrr] at HS HArg
          dsimp only at HS HArg
          clear hrr
          by_cases hr2 : r2 = 0
          · rw [if_neg (by simp [hr2])] at HS
            have HS := Lib.hid HS
            have hr2b : ((r2 : Int) != 0) = false := by simp [hr2]
            clear hr2
            go_wp2_with (first | (go_at_call 89; refine HGap.out.mono ?_; rintro e w1 ⟨rfl, hr1, hf1⟩; have t1 := t0.fr hf1 (by omega) (by unfold One; omega) (by unfold One; omega); have ho1 := ho.frb hf1 (by unfold One; omega); have hs1 := hf1.size) | (go_at_call 90; refine (HArg.out _ (by assumption) (by assumption)).mono ?_; rintro e w2 ⟨rfl, hr2', hf2⟩; have hoX := ho.frb hf2 (by unfold One; omega); have hs2 := hf2.size) | (at_builtin; refine wpList_app1 rfl _ _ 58 rfl base 2 (.int .i64 0) 8 Tryd.underlying58 info2 rfl _ 0 (i64s acc) (by rw [i64s_length]; exact HL.out) _ rfl (by exact hoX) rfl rfl (by omega) (by omega) (by omega) ?_; intro A' cap' w3 o' f'))
            go_roundg (A.size - (0 + 1))
            case measure => omega
            case rel => exact ⟨0 + 1, r3, acc ++ [r1], _, by omega, rfl, by go_num, HS.out, by rw [i64s_snoc]; exact o', hr2'.fr f' (by omega), (hf.trans hf2).then f' (by have := HBase.out; intro i h1 h2; omega), by rw [List.length_append, HL.out]; rfl, rfl⟩
          · rw [if_pos hr2] at HS
            have HS := Lib.hid HS
            have hr2b : ((r2 : Int) != 0) = true := by simp; omega
            clear hr2
            go_wp2_with (first | (go_at_call 89; refine HGap.out.mono ?_; rintro e w1 ⟨rfl, hr1, hf1⟩; have t1 := t0.fr hf1 (by omega) (by unfold One; omega) (by unfold One; omega)) | (go_at_call 90; refine (HArg.out _ (by assumption) (by assumption)).mono ?_; rintro e w2 ⟨rfl, hr2', hf2⟩))
            go_ret2
            rw [← HS.out]
            exact ⟨_, rfl, Ow.nil _ _ _, hr2', hf.trans hf2⟩
    · have HS : Hid ((acc, 0, j) = R) := by have h := HG.out; rw [grpGo, if_neg hlt] at h; exact h
      go_wp2
      go_ret2
      rw [← HS.out]
      exact ⟨_, rfl, by rw [HBase.out]; exact ho, hr, hf⟩
end Go.Proofs.YtchgjjegcoiepaaDoor
