import Derived.Test.YtchgjjegcoiepaaDoorScanOk
import Derived.Test.YtchgjjegcoiepaaDoorDiv
namespace Go.Proofs.YtchgjjegcoiepaaDoor
open Go.RowKit

def ParsePost (w : World) (r : Int × Nat) (e : Ending) (w' : World) : Prop := e = .returned (.tuple #[.int .i64 r.1, .int .i64 r.2]) ∧ Fr No w w'

theorem scanGo_bd (s : ByteArray) (sg : Bool) : ∀ (d i st : Nat), s.size - i = d → i ≤ s.size → i ≤ (scanGo s sg i st).1 ∧ (scanGo s sg i st).1 ≤ s.size := by
  intro d
  induction d with
  | zero => intro i st hd hi; rw [scanGo, if_neg (by omega)]; exact ⟨Nat.le_refl _, hi⟩
  | succ d ih =>
    intro i st hd hi
    rw [scanGo]
    split
    · have := ih (i + 1) (nxt st (kd (bAt s i))) (by omega) (by omega); omega
    · exact ⟨Nat.le_refl _, hi⟩

theorem parse_no (s : ByteArray) (w : World) (hs : s.size ≤ 140737488351232) (hT : TabNx w) (h : scanOk s = false) :
    Calls Tryd.prog 97 #[.string s] w (ParsePost w (0, 3)) := by
  have HS : Hid (Calls Tryd.prog 120 #[.string s, .int .i64 0, .bool true] w fun e w' => e = .returned (.tuple #[.int .i64 (scanGo s true 0 0).1, .bool (decide (endL.getD (scanGo s true 0 0).2 0 = 1))]) ∧ ∃ n, w' = w.drewN n) := Scan_any s 0 true w (by omega) hs hT
  have hb := scanGo_bd s true s.size 0 0 (by omega) (by omega)
  unfold scanOk at h
  obtain ⟨E, hE⟩ : ∃ E, (scanGo s true 0 0).1 = E := ⟨_, rfl⟩
  obtain ⟨b, hbb⟩ : ∃ b, decide (endL.getD (scanGo s true 0 0).2 0 = 1) = b := ⟨_, rfl⟩
  rw [hE] at hb h
  rw [hbb] at h
  rw [hE, hbb] at HS
  clear hE hbb
  cases b
  · go_enter Tryd.func97, Tryd.ntmps97
    go_wp2_with (go_at_call 120; refine HS.out.mono ?_; rintro e w' ⟨rfl, n, rfl⟩)
    go_ret2
    exact ⟨rfl, (Fr.refl w).drewN n⟩
  · have hlt : E < s.size := by
      simp at h; omega
    clear h
    go_enter Tryd.func97, Tryd.ntmps97
    go_wp2_with (go_at_call 120; refine HS.out.mono ?_; rintro e w' ⟨rfl, n, rfl⟩)
    go_ret2
    exact ⟨rfl, (Fr.refl w).drewN n⟩

set_option maxRecDepth 100000 in
set_option maxHeartbeats 2000000 in
theorem parse_yes (s : ByteArray) (w : World) (hs : s.size ≤ 140737488351232) (hT : TabNx w) (h : scanOk s = true) :
    Calls Tryd.prog 97 #[.string s] w (ParsePost w (parseD (readF s))) := by
  have HS : Hid (Calls Tryd.prog 120 #[.string s, .int .i64 0, .bool true] w fun e w' => e = .returned (.tuple #[.int .i64 (scanGo s true 0 0).1, .bool (decide (endL.getD (scanGo s true 0 0).2 0 = 1))]) ∧ ∃ n, w' = w.drewN n) := Scan_any s 0 true w (by omega) hs hT
  have h' := h
  unfold scanOk at h
  simp only [Bool.and_eq_true, decide_eq_true_eq, beq_iff_eq] at h
  have hGood := good_of_scan h.2 h.1
  rw [h.2, h.1] at HS
  clear h'
  obtain ⟨o1, o2, o3, o4⟩ := readF_ok s hs
  have HR := Lib.hid (fun w => read_any s w hs hGood)
  obtain ⟨D, hD⟩ : ∃ D, readF s = D := ⟨_, rfl⟩
  rw [hD] at o1 o2 o3 o4 HR
  rw [hD]
  clear hD h hGood
  obtain ⟨P, hP⟩ : ∃ P, parseD D = P := ⟨_, rfl⟩
  rw [hP]
  have HP := Lib.hid hP; clear hP
  obtain ⟨bl, ds, pt⟩ := D
  dsimp only at o1 o2 o3 o4
  by_cases hbig : 5 < pt ∧ 0 < ds.length
  · have HPb : Hid (P = (0, 2)) := by unfold Hid; rw [← HP.out, parseD, if_pos hbig]
    obtain ⟨h5, hl0⟩ := hbig
    go_enter Tryd.func97, Tryd.ntmps97
    go_wp2_with (first | (go_at_call 120; refine HS.out.mono ?_; rintro e w' ⟨rfl, n, rfl⟩) | (go_at_call 121; refine (HR.out _).mono ?_; rintro e w1 ⟨sv, rfl, o, f1⟩; dsimp only at o; obtain ⟨A, cap, rfl, hcap⟩ := o.form; rw [u8s_length] at o hcap ⊢))
    go_ret2
    exact ⟨by rw [HPb.out]; rfl, (((Fr.refl w).drewN n).trans f1).alloc _⟩
  · have HPb : Hid (¬ (5 < pt ∧ 0 < ds.length)) := hbig
    have hor : pt ≤ 5 ∨ (5 < pt ∧ ds.length = 0) := by omega
    clear hbig
    go_enter Tryd.func97, Tryd.ntmps97
    go_upto_region 5 with ((first | (go_at_call 120; refine HS.out.mono ?_; rintro e w' ⟨rfl, n, rfl⟩) | (go_at_call 121; refine (HR.out _).mono ?_; rintro e w1 ⟨sv, rfl, o, f1⟩; dsimp only at o; obtain ⟨A, cap, rfl, hcap⟩ := o.form; rw [u8s_length] at o hcap ⊢)))
    have hbw0 : w.heap.size ≤ w1.heap.size := f1.size
    have hf0 : Fr No w (w1.alloc (.cells #[.bool bl, .slice A ds.length cap, .int .i64 pt] 169)) := (((Fr.refl w).drewN n).trans f1).alloc _
    have hn0 : NbX (w1.alloc (.cells #[.bool bl, .slice A ds.length cap, .int .i64 pt] 169)) w1.heap.size bl (.slice A ds.length cap) pt := alloc_block w1 _
    obtain ⟨base, hbase⟩ : ∃ base, (w.drewN n).heap.size = base := ⟨_, rfl⟩
    rw [hbase] at o
    have ho0 := o.alloc (.cells #[.bool bl, .slice A ds.length cap, .int .i64 pt] 169)
    obtain ⟨b, hb⟩ : ∃ b, w1.heap.size = b := ⟨_, rfl⟩
    rw [hb] at hbw0 hn0 ⊢
    clear hb hbase o f1
    generalize World.alloc w1 _ = w2 at *
    have n0 := hn0.c0; have n1 := hn0.c1; have n2 := hn0.c2
    go_cut [40] (fun v wx => v = .bool false ∧ w2 = wx)
    case first =>
      rcases hor with h5 | ⟨h5, hl0⟩
      · go_wp2
        go_meet
        exact ⟨rfl, rfl⟩
      · have hl1 : ¬ 0 < ds.length := by omega
        clear hl0
        go_wp2
        go_meet
        exact ⟨rfl, rfl⟩
    case rest =>
      obtain ⟨rfl, rfl⟩ := hcut
      clear n0 n1 n2
      go_wp2
      go_loopg [7, 8] 5 (fun gk ua ui wx => ∃ k : Nat, k ≤ 5 ∧ ua = .int .u64 (numD ⟨bl, ds, pt⟩ (-4) k : Nat) ∧ ui = .int .i64 (-4 + k) ∧ NbX wx b bl (.slice A ds.length cap) pt ∧ Ow wx base 5 (.slice A ds.length cap) (u8s ds) ∧ Fr No w wx ∧ w.heap.size ≤ b ∧ gk = 5 - k)
      case atStart => exact ⟨0, by omega, rfl, rfl, hn0, ho0, hf0, hbw0, rfl⟩
      case round =>
        obtain ⟨k, hk, rfl, rfl, hn, ho, hf, hbw, rfl⟩ := hrel
        have hlt := numD_lt (D := ⟨bl, ds, pt⟩) o1 (-4) k
        obtain ⟨x, hx⟩ : ∃ x, numD ⟨bl, ds, pt⟩ (-4) k = x := ⟨_, rfl⟩
        rw [hx] at hlt
        have HX := Lib.hid hx
        rw [hx]
        clear hx
        have n0 := hn.c0; have n1 := hn.c1; have n2 := hn.c2
        by_cases hkn : k < 5
        · have hx2 : (x : Int) ≤ 10000 := by
            have : 10 ^ k ≤ 10 ^ 4 := Nat.pow_le_pow_right (by omega) (by omega)
            have e : (10 : Nat) ^ 4 = 10000 := by decide
            omega
          have hd := digN_le (D := ⟨bl, ds, pt⟩) o1 (-4 + k)
          have HDg := Lib.hid (digit_any ⟨bl, ds, pt⟩ (-4 + k) base (.slice A ds.length cap) wr (by dsimp only; omega) (by omega) ho o2 o1)
          obtain ⟨y, hy⟩ : ∃ y, digN ⟨bl, ds, pt⟩ (-4 + k) = y := ⟨_, rfl⟩
          rw [hy] at hd HDg
          have HY := Lib.hid hy
          clear hlt hy
          go_wp2_with (go_at_call 122; refine HDg.out.mono ?_; rintro e wy ⟨rfl, fy⟩)
          go_roundg (5 - (k + 1))
          case measure => omega
          case rel => exact ⟨k + 1, by omega, by rw [numD, HX.out, HY.out]; go_num, by first | (congr 1; omega) | (congr 1), hn.fr fy id, ho.fr fy (fun _ _ _ => id), hf.trans fy, hbw, rfl⟩
        · obtain rfl : k = 5 := by omega

          have hx5 : (x : Int) ≤ 99999 := by
            have e : (10 : Nat) ^ 5 = 100000 := by decide
            omega
          clear hlt hn0 ho0 hf0 hbw0 n0 n1 n2
          go_wp2
          obtain ⟨wo, rfl⟩ : ∃ wo : World, wo = wr := ⟨_, rfl⟩
          go_loopg [9, 10] 17 (fun gk ua ui wx => ∃ k : Nat, k ≤ 17 ∧ ua = .int .u64 (numD ⟨bl, ds, pt⟩ (1) k : Nat) ∧ ui = .int .i64 (1 + k) ∧ NbX wx b bl (.slice A ds.length cap) pt ∧ Ow wx base 5 (.slice A ds.length cap) (u8s ds) ∧ Fr No w wx ∧ w.heap.size ≤ b ∧ gk = 17 - k)
          case atStart => exact ⟨0, by omega, rfl, rfl, hn, ho, hf, hbw, rfl⟩
          case round =>
            obtain ⟨k, hk, rfl, rfl, hn, ho, hf, hbw, rfl⟩ := hrel
            have hlt2 := numD_lt (D := ⟨bl, ds, pt⟩) o1 (1) k
            obtain ⟨z, hz⟩ : ∃ z, numD ⟨bl, ds, pt⟩ (1) k = z := ⟨_, rfl⟩
            rw [hz] at hlt2
            have HZ := Lib.hid hz
            rw [hz]
            clear hz
            have n0 := hn.c0; have n1 := hn.c1; have n2 := hn.c2
            by_cases hkn : k < 17
            · have hz2 : (z : Int) ≤ 10000000000000000 := by
                have : 10 ^ k ≤ 10 ^ 16 := Nat.pow_le_pow_right (by omega) (by omega)
                have e : (10 : Nat) ^ 16 = 10000000000000000 := by decide
                omega
              have hd := digN_le (D := ⟨bl, ds, pt⟩) o1 (1 + k)
              have HDg := Lib.hid (digit_any ⟨bl, ds, pt⟩ (1 + k) base (.slice A ds.length cap) wr (by dsimp only; omega) (by omega) ho o2 o1)
              obtain ⟨y, hy⟩ : ∃ y, digN ⟨bl, ds, pt⟩ (1 + k) = y := ⟨_, rfl⟩
              rw [hy] at hd HDg
              have HY := Lib.hid hy
              clear hlt2 hy
              go_wp2_with (go_at_call 122; refine HDg.out.mono ?_; rintro e wy ⟨rfl, fy⟩)
              go_roundg (17 - (k + 1))
              case measure => omega
              case rel => exact ⟨k + 1, by omega, by rw [numD, HZ.out, HY.out]; go_num, by first | (congr 1; omega) | (congr 1), hn.fr fy id, ho.fr fy (fun _ _ _ => id), hf.trans fy, hbw, rfl⟩
            · obtain rfl : k = 17 := by omega
              have hz5 : (z : Int) ≤ 99999999999999999 := by
                have e : (10 : Nat) ^ 17 = 100000000000000000 := by decide
                omega
              clear hlt2 n0 n1 n2
              obtain ⟨wl, rfl⟩ : ∃ wl : World, wl = wr := ⟨_, rfl⟩
              obtain ⟨M, hM⟩ : ∃ M : Bool, decide (0 < ds.length ∧ pt + 17 < ds.length) = M := ⟨_, rfl⟩
              have HM := Lib.hid hM; clear hM
              have n0 := hn.c0; have n1 := hn.c1; have n2 := hn.c2
              go_upto_region 17 with (fail)
              go_cut [11] (fun v wx => v = .bool M ∧ wl = wx)
              case first =>
                by_cases hl1 : 0 < ds.length
                · by_cases hl2 : pt + 17 < ds.length
                  · have HM2 : Hid (true = M) := by unfold Hid; rw [← HM.out]; simp [hl1, hl2]
                    go_wp2
                    go_meet
                    exact ⟨by rw [← HM2.out], rfl⟩
                  · have HM2 : Hid (false = M) := by unfold Hid; rw [← HM.out]; simp [hl2]
                    have hl2' : decide (pt + 17 < (ds.length : Int)) = false := by simp [hl2]
                    clear hl2
                    go_wp2
                    go_meet
                    exact ⟨by rw [← HM2.out], rfl⟩
                · have HM2 : Hid (false = M) := by unfold Hid; rw [← HM.out]; simp [hl1]
                  go_wp2
                  go_meet
                  exact ⟨by rw [← HM2.out], rfl⟩
              case rest =>
                obtain ⟨rfl, rfl⟩ := hcut
                obtain ⟨H, hH⟩ : ∃ H, z * 65536 / 18446744073709551616 = H := ⟨_, rfl⟩
                obtain ⟨L, hL⟩ : ∃ L, z * 65536 % 18446744073709551616 = L := ⟨_, rfl⟩
                have hHL : H * 18446744073709551616 + L = z * 65536 := by rw [← hH, ← hL]; exact Nat.div_add_mod' _ _
                have HMul : Hid (∀ w, Calls Tryd.prog 123 #[.int .u64 z, .int .u64 65536] w fun e w' => e = .returned (.tuple #[.int .u64 H, .int .u64 L]) ∧ w = w') := fun w => by
                  have h := Tryd.bits_Mul64 z 65536 (by omega) (by omega) w
                  rw [hH, hL] at h
                  exact h.mono (by rintro e w' ⟨rfl, rfl⟩; exact ⟨rfl, rfl⟩)
                obtain ⟨q, hq⟩ : ∃ q, z * 65536 / 100000000000000000 = q := ⟨_, rfl⟩
                obtain ⟨r, hr⟩ : ∃ r, z * 65536 % 100000000000000000 = r := ⟨_, rfl⟩
                have HDiv : Hid (∀ w, Calls Tryd.prog 124 #[.int .u64 H, .int .u64 L, .int .u64 100000000000000000] w fun e w' => e = .returned (.tuple #[.int .u64 q, .int .u64 r]) ∧ ∃ n, w' = w.drewN n) := fun w => by
                  have h := Div64_any H L 100000000000000000 w (by omega) (by omega) (by omega)
                  rw [hHL, hq, hr] at h
                  exact h
                have hq6 : (q : Int) ≤ 65535 := by omega
                have HPz : Hid (parseD ⟨bl, ds, pt⟩ = P) := HP
                unfold Hid at HPz
                rw [parseD, if_neg HPb.out] at HPz
                dsimp only at HPz
                rw [HX.out, HZ.out, hq, hr] at HPz
                replace HPz := Lib.hid HPz
                obtain ⟨v, hv⟩ : ∃ v, x * 65536 + q = v := ⟨_, rfl⟩
                have hwv : (x : Int) * 65536 + (q : Int) = v := by omega
                have hv6 : (v : Int) ≤ 6553600000 := by omega
                have HV := Lib.hid hv
                clear hH hL hHL hq hr hv
                obtain ⟨C, hC⟩ : ∃ C : Bool, decide (50000000000000000 < r ∨ r = 50000000000000000 ∧ ((0 < ds.length ∧ pt + 17 < ds.length) ∨ bl = false)) = C := ⟨_, rfl⟩
                have HC := Lib.hid hC; clear hC
                go_upto_region 21 with (first | (go_at_call 123; refine (HMul.out _).mono ?_; rintro e w' ⟨rfl, rfl⟩) | (go_at_call 124; refine (HDiv.out _).mono ?_; rintro e w' ⟨rfl, n5, rfl⟩))
                go_cut [102] (fun u wx => u = .bool C ∧ wl.drewN n5 = wx)
                case first =>
                  by_cases r1 : 50000000000000000 < r
                  · have hr1 : decide ((50000000000000000 : Int) < (r : Int)) = true := by rw [decide_eq_true_iff]; omega
                    have hVe : Hid (true = C) := by unfold Hid; rw [← HC.out]; exact (decide_eq_true (.inl r1)).symm
                    clear r1
                    go_wp2
                    go_meet
                    exact ⟨by rw [← hVe.out], rfl⟩
                  · have hr1 : decide ((50000000000000000 : Int) < (r : Int)) = false := by rw [decide_eq_false_iff_not]; omega
                    by_cases r2 : r = 50000000000000000
                    · have hr2 : ((r : Int) == 50000000000000000) = true := by rw [beq_iff_eq]; omega
                      have HMM := HM.out
                      cases M
                      · cases bl
                        · have hVe : Hid (true = C) := by unfold Hid; rw [← HC.out]; exact (decide_eq_true (.inr ⟨r2, .inr rfl⟩)).symm
                          clear r1 r2 HMM
                          go_wp2
                          go_meet
                          exact ⟨by rw [← hVe.out], rfl⟩
                        · have hVe : Hid (false = C) := by
                            unfold Hid; rw [← HC.out]
                            simp only [decide_eq_false_iff_not] at HMM
                            refine (decide_eq_false ?_).symm
                            rintro (h | ⟨_, h | h⟩)
                            · exact r1 h
                            · exact HMM h
                            · cases h
                          clear r1 r2 HMM
                          go_wp2
                          go_meet
                          exact ⟨by rw [← hVe.out], rfl⟩
                      · have hVe : Hid (true = C) := by
                          unfold Hid; rw [← HC.out]; exact (decide_eq_true (.inr ⟨r2, .inl (of_decide_eq_true HMM)⟩)).symm
                        clear r1 r2 HMM
                        go_wp2
                        go_meet
                        exact ⟨by rw [← hVe.out], rfl⟩
                    · have hr2 : ((r : Int) == 50000000000000000) = false := by rw [beq_eq_false_iff_ne]; omega
                      have hVe : Hid (false = C) := by
                        unfold Hid; rw [← HC.out]
                        refine (decide_eq_false ?_).symm
                        rintro (h | ⟨h, _⟩)
                        · exact r1 h
                        · exact r2 h
                      clear r1 r2
                      go_wp2
                      go_meet
                      exact ⟨by rw [← hVe.out], rfl⟩
                case rest =>
                  obtain ⟨rfl, rfl⟩ := hcut
                  obtain ⟨V, hV⟩ : ∃ V, (if C = true then v + 1 else v) = V := ⟨_, rfl⟩
                  have hVV : Hid (P = if 4294967296 ≤ V then (0, 2) else if bl = true then (-(V : Int), 0) else ((V : Int), 0)) := by
                    have h := HPz.out
                    have e : (if 50000000000000000 < r ∨ r = 50000000000000000 ∧ ((0 < ds.length ∧ pt + 17 < ds.length) ∨ bl = false) then v + 1 else v) = V := by
                      rw [← hV, ← HC.out]; simp only [decide_eq_true_iff]
                    rw [HV.out, e] at h
                    exact h.symm
                  have hV6 : (V : Int) ≤ 6553600001 := by rw [← hV]; split <;> omega
                  have hCV : (C = true ∧ (v : Int) + 1 = V) ∨ (C = false ∧ v = V) := by
                    cases C
                    · exact .inr ⟨rfl, by simpa using hV⟩
                    · refine .inl ⟨rfl, ?_⟩
                      simp only [if_true] at hV
                      omega
                  clear hV
                  by_cases hb1 : 4294967296 ≤ V
                  · have hb2 : decide ((4294967296 : Int) ≤ (V : Int)) = true := by rw [decide_eq_true_iff]; omega
                    have hPP : Hid (P = (0, 2)) := by unfold Hid; rw [hVV.out, if_pos hb1]
                    clear hb1
                    rcases hCV with ⟨rfl, hCV⟩ | ⟨rfl, rfl⟩
                    all_goals
                      go_wp2
                      go_ret2
                      exact ⟨by rw [hPP.out]; rfl, hf.drewN n5⟩
                  · have hb2 : decide ((4294967296 : Int) ≤ (V : Int)) = false := by rw [decide_eq_false_iff_not]; omega
                    have hPP := hVV.out
                    rw [if_neg hb1] at hPP
                    replace hPP := Lib.hid hPP
                    clear hb1
                    cases bl
                    all_goals
                      rcases hCV with ⟨rfl, hCV⟩ | ⟨rfl, rfl⟩
                      all_goals
                        go_wp2
                        go_ret2
                        exact ⟨by rw [hPP.out]; rfl, hf.drewN n5⟩

theorem parse_any (s : ByteArray) (w : World) (hs : s.size ≤ 140737488351232) (hT : TabNx w) : Calls Tryd.prog 97 #[.string s] w (ParsePost w (parseF s)) := by
  unfold parseF
  cases h : scanOk s
  · exact parse_no s w hs hT h
  · exact parse_yes s w hs hT h
end Go.Proofs.YtchgjjegcoiepaaDoor
