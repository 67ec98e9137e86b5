import Derived.Test.YtchgjjegcoiepaaDoorBase
import Derived.Test.YtchgjjegcoiepaaDoorLib1
import Derived.Deep.LoopGhost
import Derived.Deep.DeepCutAuto
import Derived.Deep.CutBlock
import Derived.Test.YtchgjjegcoiepaaDoorKnuth
namespace Go.Proofs.YtchgjjegcoiepaaDoor
open Go.RowKit

theorem u64w (n : Nat) (h : n < 18446744073709551616) : IntKind.u64.wrap (n : Int) = n := by
  rw [IntKind.wrap_u64]; omega
theorem u64w_mul (a b m : Nat) (h : a * b = m) (hm : m < 18446744073709551616) : IntKind.u64.wrap ((a : Int) * (b : Int)) = m := by
  rw [← h] at hm; rw [← h, ← Int.natCast_mul]; exact u64w _ hm
theorem and32 (n : Nat) (h : n < 18446744073709551616) : bits .and .u64 (n : Int) 4294967295 = ((n % 4294967296 : Nat) : Int) := by
  have := u64_and_nat n 4294967295 h (by decide)
  rw [show ((4294967295 : Nat) : Int) = 4294967295 from rfl] at this
  rw [this, show (4294967295 : Nat) = 2 ^ 32 - 1 from rfl, Nat.and_two_pow_sub_one_eq_mod]

set_option maxRecDepth 100000 in
set_option maxHeartbeats 2000000 in
theorem Div64_any (hi lo y : Nat) (w : World) (h1 : hi < y) (h2 : y < 18446744073709551616) (h3 : lo < 18446744073709551616) :
    Calls Tryd.prog 124 #[.int .u64 hi, .int .u64 lo, .int .u64 y] w fun e w' => e = .returned (.tuple #[.int .u64 ((hi * 18446744073709551616 + lo) / y : Nat), .int .u64 ((hi * 18446744073709551616 + lo) % y : Nat)]) ∧ ∃ n, w' = w.drewN n := by
  by_cases h0 : hi = 0
  · subst h0
    have hy0 : ((y : Int) == 0) = false := by simp; omega
    have hy1 : 1 ≤ (y : Int) := by omega
    have hq : IntKind.u64.wrap ((lo : Int) / (y : Int)) = ((lo / y : Nat) : Int) := by
      have := Nat.div_le_self lo y
      rw [← Int.natCast_ediv]; exact u64w _ (by omega)
    go_enter Tryd.func124, Tryd.ntmps124
    go_wp2
    go_quiet (fail)
    go_wp2
    go_ret2
    exact ⟨by simp, _, rfl⟩
  · have hy0 : ((y : Int) == 0) = false := by simp; omega
    have hh0 : ((hi : Int) == 0) = false := by simp; omega
    have hy1 : 1 ≤ (y : Int) := by omega
    obtain ⟨k1, k2, k3, k4⟩ := bitLen_bd 64 y h2 (by omega) (by omega)
    obtain ⟨s, hs⟩ : ∃ s, 64 - Lib.bitLen y = s := ⟨_, rfl⟩
    have hs63 : s ≤ 63 := by omega
    have HZ : Hid (∀ w, Calls Tryd.prog 144 #[.int .u64 y] w fun e w' => e = .returned (.int .i64 s) ∧ w = w') := fun w =>
      (Tryd.bits_LeadingZeros64 y w (by omega) (by omega)).mono (by rintro e w' ⟨rfl, rfl⟩; exact ⟨by rw [← hs]; simp; omega, rfl⟩)
    obtain ⟨Y, hY⟩ : ∃ Y, y * 2 ^ s = Y := ⟨_, rfl⟩
    have hY64 : Y < 18446744073709551616 ∧ 9223372036854775808 ≤ Y := by
      have e1 : 2 ^ (Lib.bitLen y - 1) * 2 ^ s = 2 ^ 63 := by rw [← Nat.pow_add]; congr 1; omega
      have e2 : 2 ^ (Lib.bitLen y) * 2 ^ s = 2 ^ 64 := by rw [← Nat.pow_add]; congr 1; omega
      have e3 := Nat.mul_le_mul_right (2 ^ s) k3
      have e4 := (Nat.mul_lt_mul_right (Nat.two_pow_pos s)).2 k4
      rw [e1, hY] at e3
      rw [e2, hY] at e4
      omega
    have hwY : IntKind.u64.wrap ((y : Int) * 2 ^ s) = Y := by
      have := u64w_mul y (2 ^ s) Y hY hY64.1
      rwa [Int.natCast_pow] at this
    obtain ⟨a, ha⟩ : ∃ a, Y / 4294967296 = a := ⟨_, rfl⟩
    obtain ⟨b, hb⟩ : ∃ b, Y % 4294967296 = b := ⟨_, rfl⟩
    have HYab : Hid (a * 4294967296 + b = Y) := by rw [← ha, ← hb]; exact Nat.div_add_mod' Y 4294967296
    have hb2 : b < 4294967296 := by omega
    have ha2 : 2147483648 ≤ a ∧ a < 4294967296 := by omega
    have hwa : (Y : Int) / 4294967296 = a := by omega
    have hwb : bits .and .u64 (Y : Int) 4294967295 = b := by rw [and32 Y hY64.1, hb]
    obtain ⟨c1, c2, c3, c4⟩ := kn_upper hi lo y s hs63 h3 (by rw [hY]; exact hY64.1) h1
    have hHlt : hi * 2 ^ s < 18446744073709551616 := by omega
    obtain ⟨T, hT⟩ : ∃ T, lo / 2 ^ (64 - s) = T := ⟨_, rfl⟩
    rw [hT] at c2 c3 c4
    obtain ⟨U, hU⟩ : ∃ U, hi * 2 ^ s + T = U := ⟨_, rfl⟩
    rw [hU] at c2 c3 c4
    rw [hY] at c3
    obtain ⟨H, hH⟩ : ∃ H, hi * 2 ^ s = H := ⟨_, rfl⟩
    rw [hH] at c1 c2 hHlt hU
    have hwH : IntKind.u64.wrap ((hi : Int) * 2 ^ s) = H := by
      have := u64w_mul hi (2 ^ s) H hH hHlt
      rwa [Int.natCast_pow] at this
    have hwT : (lo : Int) / 2 ^ (64 - s) = T := by
      rw [← hT, Int.natCast_ediv, Int.natCast_pow]; rfl
    have hwU : bits .or .u64 (H : Int) (T : Int) = U := by rw [u64_or_nat H T hHlt (by omega), c2]
    obtain ⟨L, hL⟩ : ∃ L, lo * 2 ^ s % 18446744073709551616 = L := ⟨_, rfl⟩
    rw [hL] at c4
    have hL64 : L < 18446744073709551616 := by rw [← hL]; exact Nat.mod_lt _ (by decide)
    have hwL : IntKind.u64.wrap ((lo : Int) * 2 ^ s) = L := by
      rw [IntKind.wrap_u64, ← hL, Int.natCast_emod, Int.natCast_mul, Int.natCast_pow]; rfl
    obtain ⟨d1, hd1⟩ : ∃ d1, L / 4294967296 = d1 := ⟨_, rfl⟩
    obtain ⟨d0, hd0⟩ : ∃ d0, L % 4294967296 = d0 := ⟨_, rfl⟩
    have HLd : Hid (L = d1 * 4294967296 + d0) := by rw [← hd1, ← hd0]; exact (Nat.div_add_mod' L 4294967296).symm
    have hd1lt : d1 < 4294967296 := by omega
    have hd0lt : d0 < 4294967296 := by omega
    have hwd1 : (L : Int) / 4294967296 = d1 := by omega
    have hwd0 : bits .and .u64 (L : Int) 4294967295 = d0 := by rw [and32 L hL64, hd0]
    -- the first digit
    obtain ⟨Q1, hQ1⟩ : ∃ Q1, (U * 4294967296 + d1) / Y = Q1 := ⟨_, rfl⟩
    obtain ⟨V, hV⟩ : ∃ V, (U * 4294967296 + d1) % Y = V := ⟨_, rfl⟩
    have hVY : V < Y := by rw [← hV]; exact Nat.mod_lt _ (by omega)
    obtain ⟨Q0, hQ0⟩ : ∃ Q0, (V * 4294967296 + d0) / Y = Q0 := ⟨_, rfl⟩
    obtain ⟨R, hR⟩ : ∃ R, (V * 4294967296 + d0) % Y = R := ⟨_, rfl⟩
    have FIN : Hid ((hi * 18446744073709551616 + lo) / y = Q1 * 4294967296 + Q0 ∧ R = ((hi * 18446744073709551616 + lo) % y) * 2 ^ s) := by
      obtain ⟨f1, f2⟩ := kn_shift (hi * 18446744073709551616 + lo) y s
      rw [c4, hY, HLd.out] at f1 f2
      obtain ⟨f3, f4⟩ := kn_join U d1 d0 Y (by omega)
      rw [hQ1, hV, hQ0] at f3
      rw [hV, hR] at f4
      exact ⟨by rw [← f1, f3], by rw [← f2, f4]⟩
    have HY := Lib.hid hY; clear hY
    clear k1 k2 k3 k4 hs c1 c2 c4 hU hH hT hL hd1 hd0 ha hb
    have HUlt := Lib.hid c3; clear c3
    have HDlt := Lib.hid hd1lt
    have HQ1 := Lib.hid hQ1; clear hQ1
    have HV := Lib.hid hV; clear hV
    have HQ0 := Lib.hid hQ0; clear hQ0
    have HR := Lib.hid hR; clear hR
    have HVlt := Lib.hid hVY
    have x1 : ∃ x : Nat, U * 4294967296 % 18446744073709551616 = x := ⟨_, rfl⟩
    obtain ⟨x1, hx1⟩ := x1
    have hwx1 : IntKind.u64.wrap ((U : Int) * 4294967296) = x1 := by rw [IntKind.wrap_u64, ← hx1]; omega
    obtain ⟨x2, hx2⟩ : ∃ x, (x1 + d1) % 18446744073709551616 = x := ⟨_, rfl⟩
    have hwx2 : IntKind.u64.wrap ((x1 : Int) + (d1 : Int)) = x2 := by rw [IntKind.wrap_u64, ← hx2]; omega
    obtain ⟨x3, hx3⟩ : ∃ x, Q1 * Y % 18446744073709551616 = x := ⟨_, rfl⟩
    have hwx3 : IntKind.u64.wrap ((Q1 : Int) * (Y : Int)) = x3 := by rw [IntKind.wrap_u64, ← hx3, Int.natCast_emod, Int.natCast_mul]; rfl
    have hwV : IntKind.u64.wrap ((x2 : Int) - (x3 : Int)) = V := by
      rw [IntKind.wrap_u64]
      have h := kn_rest (U * 4294967296 + d1) Y hY64.1 (by omega)
      rw [HQ1.out, HV.out] at h
      rw [← h, ← hx2, ← hx3, ← hx1, ← Int.natCast_mul]
      omega
    clear hx1 hx2 hx3
    have z1 : ∃ x : Nat, V * 4294967296 % 18446744073709551616 = x := ⟨_, rfl⟩
    obtain ⟨z1, hz1⟩ := z1
    have hwz1 : IntKind.u64.wrap ((V : Int) * 4294967296) = z1 := by rw [IntKind.wrap_u64, ← hz1]; omega
    obtain ⟨z2, hz2⟩ : ∃ x, (z1 + d0) % 18446744073709551616 = x := ⟨_, rfl⟩
    have hwz2 : IntKind.u64.wrap ((z1 : Int) + (d0 : Int)) = z2 := by rw [IntKind.wrap_u64, ← hz2]; omega
    obtain ⟨z3, hz3⟩ : ∃ x, Q0 * Y % 18446744073709551616 = x := ⟨_, rfl⟩
    have hwz3 : IntKind.u64.wrap ((Q0 : Int) * (Y : Int)) = z3 := by rw [IntKind.wrap_u64, ← hz3, Int.natCast_emod, Int.natCast_mul]; rfl
    have hwR : IntKind.u64.wrap ((z2 : Int) - (z3 : Int)) = R := by
      rw [IntKind.wrap_u64]
      have h := kn_rest (V * 4294967296 + d0) Y hY64.1 (by omega)
      rw [HQ0.out, HR.out] at h
      rw [← h, ← hz2, ← hz3, ← hz1, ← Int.natCast_mul]
      omega
    clear hz1 hz2 hz3
    have hQ1lt : Q1 < 4294967296 := by
      have := kn_digit U d1 a b (by rw [HYab.out]; exact HUlt.out) hd1lt
      rwa [HYab.out, HQ1.out] at this
    have hQ0lt : Q0 < 4294967296 := by
      have := kn_digit V d0 a b (by rw [HYab.out]; exact HVlt.out) hd0lt
      rwa [HYab.out, HQ0.out] at this
    have hR2 : (R : Int) / 2 ^ s = (((hi * 18446744073709551616 + lo) % y : Nat) : Int) := by
      have h := FIN.out.2
      rw [h, Int.natCast_mul, Int.natCast_pow]
      exact Int.mul_ediv_cancel _ (by have := Nat.two_pow_pos s; have e : ((2 : Nat) : Int) ^ s = ((2 ^ s : Nat) : Int) := by rw [Int.natCast_pow]
                                      rw [e]; omega)
    have HR2 := Lib.hid hR2; clear hR2
    obtain ⟨qiA, hqiA⟩ : ∃ q, U / a = q := ⟨_, rfl⟩
    obtain ⟨miA, hmiA⟩ : ∃ m, qiA * a = m := ⟨_, rfl⟩
    obtain ⟨i1A, i2A, i3A⟩ := kn_init U d1 a b hb2 ha2.1 ha2.2 (by have := HYab.out; have := HUlt.out; omega) (by omega)
    have hmUA : miA ≤ U ∧ U - miA < 4294967296 ∧ U < 18446744073709551616 := by
      have e1 := Nat.div_add_mod U a
      rw [hqiA, Nat.mul_comm, hmiA] at e1
      have := HUlt.out
      omega
    have hwqA : IntKind.u64.wrap ((U : Int) / (a : Int)) = qiA := by
      rw [← Int.natCast_ediv, hqiA]; exact u64w _ (by rw [← hqiA]; exact Nat.lt_of_le_of_lt (Nat.div_le_self _ _) hmUA.2.2)
    have hwmA : IntKind.u64.wrap ((qiA : Int) * (a : Int)) = miA := u64w_mul qiA a miA hmiA (by omega)
    have KIA : Hid (Q1 ≤ qiA ∧ qiA ≤ 4294967297) := by
      rw [HYab.out, HQ1.out, hqiA] at i1A; rw [hqiA] at i2A; exact ⟨i1A, i2A⟩
    have KJA : Hid (qiA * a + (U - miA) = U) := by unfold Hid; rw [hmiA]; omega
    clear hqiA hmiA i1A i2A i3A
    obtain ⟨qiB, hqiB⟩ : ∃ q, V / a = q := ⟨_, rfl⟩
    obtain ⟨miB, hmiB⟩ : ∃ m, qiB * a = m := ⟨_, rfl⟩
    obtain ⟨i1B, i2B, i3B⟩ := kn_init V d0 a b hb2 ha2.1 ha2.2 (by have := HYab.out; have := HVlt.out; omega) (by omega)
    have hmUB : miB ≤ V ∧ V - miB < 4294967296 ∧ V < 18446744073709551616 := by
      have e1 := Nat.div_add_mod V a
      rw [hqiB, Nat.mul_comm, hmiB] at e1
      have := HVlt.out
      omega
    have hwqB : IntKind.u64.wrap ((V : Int) / (a : Int)) = qiB := by
      rw [← Int.natCast_ediv, hqiB]; exact u64w _ (by rw [← hqiB]; exact Nat.lt_of_le_of_lt (Nat.div_le_self _ _) hmUB.2.2)
    have hwmB : IntKind.u64.wrap ((qiB : Int) * (a : Int)) = miB := u64w_mul qiB a miB hmiB (by omega)
    have KIB : Hid (Q0 ≤ qiB ∧ qiB ≤ 4294967297) := by
      rw [HYab.out, HQ0.out, hqiB] at i1B; rw [hqiB] at i2B; exact ⟨i1B, i2B⟩
    have KJB : Hid (qiB * a + (V - miB) = V) := by unfold Hid; rw [hmiB]; omega
    clear hqiB hmiB i1B i2B i3B
    go_enter Tryd.func124, Tryd.ntmps124
    go_upto_block 0 with ((go_at_call 144; refine (HZ.out _).mono ?_; rintro e w' ⟨rfl, rfl⟩))
    go_cut [15] (fun q wx => q = .int .u64 (Q1 : Nat) ∧ w = wx)
    case first =>
      go_wp2
      go_loopg [15, 16] qiA (fun gk uq ur wx => ∃ q r : Nat, uq = .int .u64 q ∧ ur = .int .u64 r ∧ q * a + r = U ∧ Q1 ≤ q ∧ q ≤ 4294967297 ∧ r < 4294967296 ∧ gk = q ∧ w = wx)
      case atStart => exact ⟨qiA, U - miA, rfl, by go_num, KJA.out, KIA.out.1, KIA.out.2, by omega, rfl, rfl⟩
      case round =>
        obtain ⟨q, r, rfl, rfl, hq, hQ, hq3, hr, hgk, rfl⟩ := hrel
        have HGk := Lib.hid hgk; clear hgk
        have HQ := Lib.hid hq; clear hq
        have HQ2 := Lib.hid hQ; clear hQ
        have goOn : Hid ((4294967296 ≤ q ∨ 4294967296 * r + d1 < q * b) → Q1 ≤ q - 1 ∧ 1 ≤ q ∧ (q - 1) * a + (r + a) = U ∧ (q - 1 ≤ 4294967296 → 4294967296 ≤ r + a → q - 1 = Q1)) := by
          intro h
          have hU := HUlt.out; have hd := (show d1 < 4294967296 by omega); have hb := hb2; have hY := HYab.out
          have h1 := kn_yes U d1 a b q r (by omega) hd HQ.out h
          rw [HYab.out, HQ1.out] at h1
          have h2 : (q - 1) * a + (r + a) = U := by
            have h3 := HQ.out
            obtain ⟨p, rfl⟩ : ∃ p, q = p + 1 := ⟨q - 1, by omega⟩
            rw [Nat.add_mul] at h3
            simp only [Nat.add_sub_cancel]; omega
          refine ⟨by omega, by omega, h2, fun h4 h5 => ?_⟩
          have h6 := kn_stop U d1 a b (q - 1) (r + a) hb2 (by omega) h2 h4 h5
          rw [HYab.out] at h6
          have := HQ1.out; omega
        have done : Hid (q * b ≤ 4294967296 * r + d1 → q = Q1) := by
          intro h
          have hY := HYab.out
          have h1 := kn_no U d1 a b q r (by omega) HQ.out h
          rw [HYab.out] at h1
          have h2 := HQ1.out; have h3 := HQ2.out
          omega
        have hrI : (r : Int) < 4294967296 := by omega
        have hqI : (q : Int) ≤ 4294967297 := by omega
        clear hr hq3
        by_cases hqB : (q : Int) < 4294967296
        · have htlt : q * b < 18446744073709551616 := Nat.lt_of_le_of_lt (Nat.mul_le_mul (show q ≤ 4294967295 by omega) (show b ≤ 4294967295 by omega)) (by decide)
          obtain ⟨t, ht⟩ : ∃ t, q * b = t := ⟨_, rfl⟩
          have hqb : IntKind.u64.wrap ((q : Int) * (b : Int)) = t := u64w_mul q b t ht (by omega)
          rw [ht] at goOn done htlt
          clear ht
          obtain ⟨z, hz⟩ : ∃ z, 4294967296 * r = z := ⟨_, rfl⟩
          have hwz : IntKind.u64.wrap (4294967296 * (r : Int)) = z := by rw [IntKind.wrap_u64, ← hz]; omega
          obtain ⟨m, hm⟩ : ∃ m, z + d1 = m := ⟨_, rfl⟩
          have hwm : IntKind.u64.wrap ((z : Int) + (d1 : Int)) = m := by rw [IntKind.wrap_u64, ← hm]; omega
          obtain ⟨p, hp⟩ : ∃ p, r + a = p := ⟨_, rfl⟩
          have hwp : IntKind.u64.wrap ((r : Int) + (a : Int)) = p := by rw [IntKind.wrap_u64, ← hp]; omega
          rw [hz, hm, hp] at goOn
          rw [hz, hm] at done
          have HRI := Lib.hid hrI
          have HP := Lib.hid hp
          clear hz hm hp hrI
          by_cases htest : m < t
          · obtain ⟨g1, g2, g3, g4⟩ := goOn.out (.inr htest)
            have G3 := Lib.hid g3; have G4 := Lib.hid g4; have G1 := Lib.hid g1
            clear g3 g4 g1
            by_cases hra : (4294967296 : Int) ≤ (p : Int)
            · go_wp2
              go_meet
              exact ⟨by rw [← G4.out (by omega) (by omega)]; go_num, rfl⟩
            · go_wp2
              go_roundg (q - 1)
              case measure => have := HGk.out; omega
              case rel => exact ⟨q - 1, p, by go_num, by go_num, G3.out, G1.out, by omega, by omega, rfl, rfl⟩
          · have G := Lib.hid (done.out (by omega))
            have hqD : decide ((4294967296 : Int) ≤ (q : Int)) = false := by rw [decide_eq_false_iff_not]; omega
            clear hqB hqI
            go_wp2
            go_meet
            exact ⟨by rw [← G.out], rfl⟩
        · obtain ⟨g1, g2, g3, g4⟩ := goOn.out (.inl (by omega))
          have G3 := Lib.hid g3; have G4 := Lib.hid g4; have G1 := Lib.hid g1
          clear g3 g4 g1
          by_cases hra : (4294967296 : Int) ≤ (r : Int) + (a : Int)
          · go_wp2
            go_meet
            exact ⟨by rw [← G4.out (by omega) (by omega)]; go_num, rfl⟩
          · go_wp2
            go_roundg (q - 1)
            case measure => have := HGk.out; omega
            case rel => exact ⟨q - 1, r + a, by go_num, by go_num, G3.out, G1.out, by omega, by omega, rfl, rfl⟩
    case rest =>
      obtain ⟨rfl, rfl⟩ := hcut
      go_upto_block 2 with (fail)
      go_cut [18] (fun q wx => q = .int .u64 (Q0 : Nat) ∧ w = wx)
      case first =>
        go_wp2
        go_loopg [18, 16] qiB (fun gk uq ur wx => ∃ q r : Nat, uq = .int .u64 q ∧ ur = .int .u64 r ∧ q * a + r = V ∧ Q0 ≤ q ∧ q ≤ 4294967297 ∧ r < 4294967296 ∧ gk = q ∧ w = wx)
        case atStart => exact ⟨qiB, V - miB, rfl, by go_num, KJB.out, KIB.out.1, KIB.out.2, by omega, rfl, rfl⟩
        case round =>
          obtain ⟨q, r, rfl, rfl, hq, hQ, hq3, hr, hgk, rfl⟩ := hrel
          have HGk := Lib.hid hgk; clear hgk
          have HQ := Lib.hid hq; clear hq
          have HQ2 := Lib.hid hQ; clear hQ
          have goOn : Hid ((4294967296 ≤ q ∨ 4294967296 * r + d0 < q * b) → Q0 ≤ q - 1 ∧ 1 ≤ q ∧ (q - 1) * a + (r + a) = V ∧ (q - 1 ≤ 4294967296 → 4294967296 ≤ r + a → q - 1 = Q0)) := by
            intro h
            have hU := HVlt.out; have hd := (show d0 < 4294967296 by omega); have hb := hb2; have hY := HYab.out
            have h1 := kn_yes V d0 a b q r (by omega) hd HQ.out h
            rw [HYab.out, HQ0.out] at h1
            have h2 : (q - 1) * a + (r + a) = V := by
              have h3 := HQ.out
              obtain ⟨p, rfl⟩ : ∃ p, q = p + 1 := ⟨q - 1, by omega⟩
              rw [Nat.add_mul] at h3
              simp only [Nat.add_sub_cancel]; omega
            refine ⟨by omega, by omega, h2, fun h4 h5 => ?_⟩
            have h6 := kn_stop V d0 a b (q - 1) (r + a) hb2 (by omega) h2 h4 h5
            rw [HYab.out] at h6
            have := HQ0.out; omega
          have done : Hid (q * b ≤ 4294967296 * r + d0 → q = Q0) := by
            intro h
            have hY := HYab.out
            have h1 := kn_no V d0 a b q r (by omega) HQ.out h
            rw [HYab.out] at h1
            have h2 := HQ0.out; have h3 := HQ2.out
            omega
          have hrI : (r : Int) < 4294967296 := by omega
          have hqI : (q : Int) ≤ 4294967297 := by omega
          clear hr hq3
          by_cases hqB : (q : Int) < 4294967296
          · have htlt : q * b < 18446744073709551616 := Nat.lt_of_le_of_lt (Nat.mul_le_mul (show q ≤ 4294967295 by omega) (show b ≤ 4294967295 by omega)) (by decide)
            obtain ⟨t, ht⟩ : ∃ t, q * b = t := ⟨_, rfl⟩
            have hqb : IntKind.u64.wrap ((q : Int) * (b : Int)) = t := u64w_mul q b t ht (by omega)
            rw [ht] at goOn done htlt
            clear ht
            obtain ⟨z, hz⟩ : ∃ z, 4294967296 * r = z := ⟨_, rfl⟩
            have hwz : IntKind.u64.wrap (4294967296 * (r : Int)) = z := by rw [IntKind.wrap_u64, ← hz]; omega
            obtain ⟨m, hm⟩ : ∃ m, z + d0 = m := ⟨_, rfl⟩
            have hwm : IntKind.u64.wrap ((z : Int) + (d0 : Int)) = m := by rw [IntKind.wrap_u64, ← hm]; omega
            obtain ⟨p, hp⟩ : ∃ p, r + a = p := ⟨_, rfl⟩
            have hwp : IntKind.u64.wrap ((r : Int) + (a : Int)) = p := by rw [IntKind.wrap_u64, ← hp]; omega
            rw [hz, hm, hp] at goOn
            rw [hz, hm] at done
            have HRI := Lib.hid hrI
            have HP := Lib.hid hp
            clear hz hm hp hrI
            by_cases htest : m < t
            · obtain ⟨g1, g2, g3, g4⟩ := goOn.out (.inr htest)
              have G3 := Lib.hid g3; have G4 := Lib.hid g4; have G1 := Lib.hid g1
              clear g3 g4 g1
              by_cases hra : (4294967296 : Int) ≤ (p : Int)
              · go_wp2
                go_meet
                exact ⟨by rw [← G4.out (by omega) (by omega)]; go_num, rfl⟩
              · go_wp2
                go_roundg (q - 1)
                case measure => have := HGk.out; omega
                case rel => exact ⟨q - 1, p, by go_num, by go_num, G3.out, G1.out, by omega, by omega, rfl, rfl⟩
            · have G := Lib.hid (done.out (by omega))
              have hqD : decide ((4294967296 : Int) ≤ (q : Int)) = false := by rw [decide_eq_false_iff_not]; omega
              clear hqB hqI
              go_wp2
              go_meet
              exact ⟨by rw [← G.out], rfl⟩
          · obtain ⟨g1, g2, g3, g4⟩ := goOn.out (.inl (by omega))
            have G3 := Lib.hid g3; have G4 := Lib.hid g4; have G1 := Lib.hid g1
            clear g3 g4 g1
            by_cases hra : (4294967296 : Int) ≤ (r : Int) + (a : Int)
            · go_wp2
              go_meet
              exact ⟨by rw [← G4.out (by omega) (by omega)]; go_num, rfl⟩
            · go_wp2
              go_roundg (q - 1)
              case measure => have := HGk.out; omega
              case rel => exact ⟨q - 1, r + a, by go_num, by go_num, G3.out, G1.out, by omega, by omega, rfl, rfl⟩
      case rest =>
        obtain ⟨rfl, rfl⟩ := hcut
        have FQ := FIN.out.1
        obtain ⟨e1, he1⟩ : ∃ x, Q1 * 4294967296 = x := ⟨_, rfl⟩
        have hwe1 : IntKind.u64.wrap ((Q1 : Int) * 4294967296) = e1 := by rw [IntKind.wrap_u64, ← he1]; omega
        obtain ⟨e2, he2⟩ : ∃ x, e1 + Q0 = x := ⟨_, rfl⟩
        have hwe2 : IntKind.u64.wrap ((e1 : Int) + (Q0 : Int)) = e2 := by rw [IntKind.wrap_u64, ← he2]; omega
        rw [he1, he2] at FQ
        have HFQ := Lib.hid FQ
        have hRs := HR2.out
        obtain ⟨rm, hrm⟩ : ∃ x, (hi * 18446744073709551616 + lo) % y = x := ⟨_, rfl⟩
        rw [hrm] at hRs
        have HRM := Lib.hid hrm
        clear he1 he2 FQ hrm hQ1lt hQ0lt hVY hmUA hmUB hHlt hL64 hd1lt hd0lt hb2 ha2 h0 h1 h3 hY64 h2
        go_wp2
        go_ret2
        exact ⟨by rw [HFQ.out, HRM.out]; rfl, 0, rfl⟩
end Go.Proofs.YtchgjjegcoiepaaDoor
