import Derived.Test.YtchgjjegcoiepaaDoorBigOf
namespace Go.Proofs.YtchgjjegcoiepaaDoor
open Go.RowKit

def valD : List Int → Nat
  | [] => 0
  | d :: r => d.toNat + 65536 * valD r
theorem valD_zeros : ∀ (xs : List Int) (m : Nat), valD (xs ++ List.replicate m 0) = valD xs
  | [], 0 => rfl
  | [], m + 1 => by
    have := valD_zeros [] m
    simp only [List.nil_append] at this
    simp [List.replicate_succ, valD, this]
  | x :: r, m => by simp [valD, valD_zeros r m]
theorem tw_all {p : Int → Bool} : ∀ {l : List Int} {x : Int}, x ∈ l.takeWhile p → p x = true
  | [], _, h => by simp at h
  | y :: r, x, h => by
    rw [List.takeWhile_cons] at h
    split at h
    · rename_i hp
      rcases List.mem_cons.1 h with rfl | h
      · exact hp
      · exact tw_all h
    · simp at h
theorem trimD_split (xs : List Int) : ∃ m, xs = trimD xs ++ List.replicate m 0 := by
  refine ⟨(xs.reverse.takeWhile (· == 0)).length, ?_⟩
  have h := List.takeWhile_append_dropWhile (p := (· == (0 : Int))) (l := xs.reverse)
  have h2 : xs.reverse.takeWhile (· == 0) = List.replicate (xs.reverse.takeWhile (· == 0)).length 0 := by
    rw [List.eq_replicate_iff]
    exact ⟨rfl, fun b hb => by simpa using tw_all hb⟩
  have h3 : xs = (xs.reverse).reverse := by simp
  conv => lhs; rw [h3, ← h, List.reverse_append, h2]
  simp [trimD]
theorem valD_digs : ∀ (i n : Nat), valD (digs i n) = n % 65536 ^ i
  | 0, n => by simp [digs, valD, Nat.mod_one]
  | i + 1, n => by
    simp only [digs, valD, valD_digs i, Int.toNat_natCast]
    rw [Nat.pow_succ, Nat.mul_comm (65536 ^ i), Nat.mod_mul]
theorem digs_mem : ∀ (i n : Nat), ∀ d ∈ digs i n, 0 ≤ d ∧ d < 65536
  | 0, _ => by simp [digs]
  | i + 1, n => by
    intro d hd
    simp only [digs, List.mem_cons] at hd
    rcases hd with rfl | hd
    · omega
    · exact digs_mem i _ d hd
theorem digs_length : ∀ (i n : Nat), (digs i n).length = i
  | 0, _ => rfl
  | i + 1, n => by simp [digs, digs_length i]
theorem bigD_facts (n : Nat) (h : n < 18446744073709551616) : valD (bigD n) = n ∧ (∀ d ∈ bigD n, 0 ≤ d ∧ d < 65536) ∧ (bigD n).length ≤ 4 := by
  obtain ⟨m, hm⟩ := trimD_split (digs 4 n)
  have e : trimD (digs 4 n) = bigD n := rfl
  rw [e] at hm
  refine ⟨?_, ?_, ?_⟩
  · rw [← valD_zeros (bigD n) m, ← hm, valD_digs]
    exact Nat.mod_eq_of_lt h
  · intro d hd
    exact digs_mem 4 n d (by rw [hm]; simp [hd])
  · have := congrArg List.length hm
    rw [digs_length, List.length_append] at this
    omega
theorem valD_drop_le : ∀ (xs : List Int) (j : Nat), valD (xs.drop j) ≤ valD xs
  | xs, 0 => by simp
  | [], j + 1 => by simp [valD]
  | x :: r, j + 1 => by have := valD_drop_le r j; simp only [List.drop_succ_cons, valD]; omega
theorem valD_step (xs : List Int) (j : Nat) (h : j < xs.length) : valD (xs.drop j) = xs[j].toNat + 65536 * valD (xs.drop (j + 1)) := by
  rw [List.drop_eq_getElem_cons h]; rfl
theorem valD_head (xs : List Int) (hm : ∀ d ∈ xs, 0 ≤ d ∧ d < 65536) : valD (xs.drop 1) = valD xs / 65536 ∧ (0 < valD xs → 0 < xs.length) ∧ ∀ h : 0 < xs.length, xs[0] = ((valD xs % 65536 : Nat) : Int) := by
  cases xs with
  | nil => simp [valD]
  | cons x r =>
    have := hm x (by simp)
    simp only [List.drop_succ_cons, List.drop_zero, valD, List.length_cons, List.getElem_cons_zero]
    omega

/-- 'string([]byte{d})'. -/
theorem one_byte (W : World) (x : Int) (d : Nat) (h : d < 256) (hx : x = d) : (convert 62 9 (.slice (some ⟨W.heap.size, 0, none⟩) 1 1)).run Tryd.prog (W.alloc (.cells #[.int .u8 x] 5)) = .ok (.string ⟨#[UInt8.ofNat d]⟩) (W.alloc (.cells #[.int .u8 x] 5)) := by
  subst hx
  exact run_convert_bytes_back (P := Tryd.prog) (W.alloc (.cells #[.int .u8 (d : Int)] 5)) 62 9 5 ⟨W.heap.size, 0, none⟩ 1 [UInt8.ofNat d] Tryd.underlying62 Tryd.underlying5 Tryd.underlying9 (fun j hj => by
    have : j = 0 := by simpa using hj
    subst this
    rw [Lib.add_plain, World.cell?_alloc_new]
    simp [Nat.mod_eq_of_lt h])

set_option maxRecDepth 200000 in
set_option maxHeartbeats 4000000 in
theorem Print4_any (v : Int) (h1 : -9223372036854775808 ≤ v) (h2 : v ≤ 9223372036854775807) (w : World) :
    Calls Tryd.prog 36 #[.int .i64 v] w fun e w' => e = .returned (.string (prF v)) ∧ Fr No w w' := by
  have HOf := Lib.hid (BigOf_any v w h1 h2)
  obtain ⟨f1, f2, f3⟩ := bigD_facts v.natAbs (by omega)
  have f4 := valD_head _ f2
  have hN := Lib.hid (show v.natAbs < 18446744073709551616 by omega)
  have HPR : Hid (prL v = (if v < 0 then [45] else []) ++ Lib.decDigits (v.natAbs / 65536) ++ (if v.natAbs % 65536 = 0 then [] else 46 :: frac 16 (v.natAbs % 65536))) := rfl
  unfold OfBig at HOf
  obtain ⟨D, hD⟩ : ∃ D, bigD v.natAbs = D := ⟨_, rfl⟩
  rw [hD] at HOf f1 f2 f3 f4
  rw [f1] at f4
  obtain ⟨n, hn⟩ : ∃ n, v.natAbs = n := ⟨_, rfl⟩
  rw [hn] at f1 f4 hN HPR
  clear hD hn h1 h2
  have F2 := Lib.hid f2
  have F1 := Lib.hid f1
  have F3 := Lib.hid f3
  have F4 := Lib.hid f4
  clear f1 f2 f3 f4
  obtain ⟨neg, hneg⟩ : ∃ b, decide (v < 0) = b := ⟨_, rfl⟩
  rw [hneg] at HOf
  have HNeg := Lib.hid hneg
  clear hneg
  have hlen : D.length ≤ 4 := F3.out
  go_enter Tryd.func36, Tryd.ntmps36
  go_upto_region 3 with (go_at_call 69; refine HOf.out.mono ?_; rintro e w1 ⟨sv, rfl, hsl, g1⟩; obtain ⟨A, cap, rfl, _⟩ := id hsl)
  generalize hW : World.alloc w1 _ = W0
  obtain ⟨a0, a1, hF⟩ := al1 hW
  clear hW
  have q0 := cell_of_block a1 0
  have q1 := cell_of_block a1 1
  simp only [List.getElem?_toArray, List.getElem?_cons_zero, List.getElem?_cons_succ] at q0 q1
  have hsl0 := hsl.fr (hF No) (fun k _ => id)
  have f0 : Fr No w W0 := g1.trans (hF No)
  clear hsl g1 hF
  cases neg
  all_goals
    go_wp2_with fail
    go_loopg [5, 6] D.length (fun gk u5 u6 wx => ∃ m : Nat, u5 = .int .u64 (valD (D.drop m)) ∧ u6 = .int .i64 ((m : Int) - 1) ∧ m ≤ D.length ∧ (m = 0 → D = []) ∧ Fr No W0 wx ∧ gk = m)
    case atStart => exact ⟨D.length, by rw [List.drop_length]; rfl, by go_num, Nat.le_refl _, fun h => List.eq_nil_of_length_eq_zero h, Fr.refl W0, rfl⟩
    case round =>
      obtain ⟨m, rfl, rfl, hm, hm0, hf, hgk⟩ := hrel
      have HG := Lib.hid hgk
      have HM0 := Lib.hid hm0
      clear hgk hm0
      by_cases hm2 : 2 ≤ m
      · obtain ⟨k, rfl⟩ : ∃ k, m = k + 1 := ⟨m - 1, by omega⟩
        have hkD : k < D.length := by omega
        obtain ⟨g, off, rfl, ht, hc⟩ := hsl0.parts (by omega)
        have r1 : wr.cell? ⟨w1.heap.size, 1, none⟩ = _ := (hf.cell (p := ⟨w1.heap.size, 1, none⟩) (lt_of_block a1) id).trans q1
        have rc : wr.cell? ⟨g, off + k, none⟩ = _ := (hf.cell (p := ⟨g, off + k, none⟩) ht.lt id).trans (hc k hkD)
        have hst := valD_step D k hkD
        have hb1 := valD_drop_le D k
        rw [F1.out] at hb1
        have hdb := F2.out D[k] (List.getElem_mem hkD)
        obtain ⟨V, hV⟩ : ∃ V, valD (D.drop (k + 1)) = V := ⟨_, rfl⟩
        obtain ⟨V', hV'⟩ : ∃ V, valD (D.drop k) = V := ⟨_, rfl⟩
        rw [hV] at hst
        rw [hV'] at hst hb1
        obtain ⟨d, hd⟩ : ∃ d, D[k] = d := ⟨_, rfl⟩
        rw [hd] at hst hdb rc
        rw [hV]
        have hn64 := hN.out
        obtain ⟨X, hX⟩ : ∃ X, 65536 * V = X := ⟨_, rfl⟩
        have e1 : IntKind.u64.wrap ((V : Int) * 65536) = (X : Int) := by rw [IntKind.wrap_u64]; omega
        have e2 : IntKind.u64.wrap d = d := by rw [IntKind.wrap_u64]; omega
        have e3 : IntKind.u64.wrap ((X : Int) + d) = (V' : Int) := by rw [IntKind.wrap_u64]; omega
        have HVV := Lib.hid hV'
        clear hc hst hb1 hdb hd hn64 hX hV hV'
        go_wp2
        go_roundg k
        case measure => have := HG.out; omega
        case rel => exact ⟨k, by rw [HVV.out], by go_num, by omega, fun h => by omega, hf, rfl⟩
      · have hb : decide ((0 : Int) < (m : Int) - 1) = false := by simp; omega
        obtain ⟨U, hU⟩ : ∃ U, n / 65536 = U := ⟨_, rfl⟩
        obtain ⟨r, hr⟩ : ∃ r, n % 65536 = r := ⟨_, rfl⟩
        have hv : valD (D.drop m) = U := by
          rcases Nat.lt_or_ge 0 m with h | h
          · have : m = 1 := by omega
            subst this
            exact F4.out.1.trans hU
          · have : m = 0 := by omega
            subst this
            have hn0 := F1.out
            rw [HM0.out rfl] at hn0 ⊢
            simp only [List.drop_nil]
            rw [← hU, ← hn0]; rfl
        rw [hv]
        have hrc : (¬ 0 < D.length ∧ r = 0) ∨ (0 < D.length ∧ ∃ g off, A = some ⟨g, off, none⟩ ∧ wr.cell? ⟨g, off, none⟩ = some (.int .i64 r)) := by
          by_cases h : 0 < D.length
          · refine .inr ⟨h, ?_⟩
            obtain ⟨g, off, rfl, ht, hc⟩ := hsl0.parts h
            refine ⟨g, off, rfl, (hf.cell (p := ⟨g, off, none⟩) ht.lt id).trans ?_⟩
            have := hc 0 h
            rw [F4.out.2.2 h, hr] at this
            exact this
          · refine .inl ⟨h, ?_⟩
            have hn0 : ¬ 0 < n := fun h' => h (F4.out.2.1 h')
            omega
        have r1 : wr.cell? ⟨w1.heap.size, 1, none⟩ = _ := (hf.cell (p := ⟨w1.heap.size, 1, none⟩) (lt_of_block a1) id).trans q1
        have HU := Lib.hid hU
        have HRr := Lib.hid hr
        have fw := f0.trans hf
        clear hU hr hv hm hsl0
        obtain ⟨wo, rfl⟩ : ∃ wo : World, wo = wr := ⟨_, rfl⟩
        rcases hrc with ⟨hl0, hr00⟩ | ⟨hl0, g, off, rfl, rc⟩
        all_goals
          go_wp2
          go_loopg [5, 8] (U + 1) (fun gk u5 u8 wx => ∃ (y : Nat) (S : ByteArray), u5 = .int .u64 y ∧ u8 = .string S ∧ y ≤ U ∧ Lib.decDigits y ++ S.data.toList = Lib.decDigits U ∧ Fr No wo wx ∧ gk = y + 1)
          case atStart => exact ⟨U, ⟨#[]⟩, rfl, rfl, Nat.le_refl _, by simp, Fr.refl wo, rfl⟩
          case round =>
            obtain ⟨y, S, rfl, rfl, hy, hS, hf2, rfl⟩ := hrel
            have HS := Lib.hid hS
            have hSs : S.size ≤ 20 := by
              have h1 := Lib.nDigits_le20 U (by have := hN.out; have := HU.out; omega)
              rw [← Lib.decDigits_length, ← hS, List.length_append] at h1
              have : S.size = S.data.toList.length := rfl
              omega
            clear hS
            obtain ⟨d, hd⟩ : ∃ d, 48 + y % 10 = d := ⟨_, rfl⟩
            have hcv := one_byte wr (48 + (y : Int) % 10) d (by omega) (by omega)
            obtain ⟨T, hT⟩ : ∃ T : ByteArray, (⟨#[UInt8.ofNat d]⟩ : ByteArray) = T := ⟨_, rfl⟩
            have hT1 : T.size = 1 := by rw [← hT]; rfl
            rw [hT] at hcv
            have HTT := Lib.hid hT
            have HDd := Lib.hid hd
            clear hT hd
            obtain ⟨z, hz⟩ : ∃ z, y / 10 = z := ⟨_, rfl⟩
            have hwz : IntKind.u64.wrap ((y : Int) / 10) = (z : Int) := by
              have := hN.out; have := HU.out
              rw [IntKind.wrap_u64]; omega
            have HZ := Lib.hid hz
            by_cases hz0 : z = 0
            · have hzb : ((z : Int) == 0) = true := by simp [hz0]
              have HDG : Hid ((T ++ S).data.toList = Lib.decDigits U) := by
                unfold Hid
                rw [← HS.out, ← HTT.out, data_append, Lib.decDigits, dif_pos (by omega), ← HDd.out, Nat.mod_eq_of_lt (by omega)]
              clear hz hz0
              have HP0 : Hid (r = 0 → ∀ (sg : List UInt8), (sg = if v < 0 then [45] else []) → sg ++ (T ++ S).data.toList = prL v) := by
                intro h0 sg hsg
                rw [HPR.out, HDG.out, HRr.out, HU.out, hsg]
                simp [h0]
              have HP1 : Hid (r ≠ 0 → ∀ (sg : List UInt8), (sg = if v < 0 then [45] else []) → sg ++ (T ++ S).data.toList ++ [46] ++ frac 16 r = prL v) := by
                intro h0 sg hsg
                rw [HPR.out, HDG.out, HRr.out, HU.out, hsg]
                simp [h0]
              have hTS : (T ++ S).size ≤ 20 := by
                have h1 := Lib.nDigits_le20 U (by have := hN.out; have := HU.out; omega)
                rw [← Lib.decDigits_length, ← HDG.out] at h1
                exact h1
              have hTSs : T.size + S.size ≤ 20 := by rw [← ByteArray.size_append]; exact hTS
              have HR16 : Hid (r < 65536) := by have := HRr.out; unfold Hid; omega
              by_cases hr0 : r = 0
              · have HPP := Lib.hid (HP0.out hr0)
                have hrb : decide ((0 : Int) < (r : Int)) = false := by simp; omega
                have hrn : decide (0 < r) = false := by simp; omega
                have HR00 := Lib.hid hr0
                clear hr0
                go_wp2
                go_loopg [3, 7] 1 (fun gk u3 u7 wx => u3 = .string (prF v) ∧ u7 = .int .i64 r ∧ Fr No w wx ∧ gk = 1)
                case atStart =>
                  refine ⟨?_, (by first | rfl | (rw [HR00.out]; rfl)), ?_, rfl⟩
                  · have hv := HNeg.out
                    simp only [decide_eq_true_iff, decide_eq_false_iff_not] at hv
                    first
                      | (have := HPP.out [45] (by rw [if_pos hv]); unfold prF; rw [← this]; rfl)
                      | (have := HPP.out [] (by rw [if_neg hv]); unfold prF; rw [← this]; rfl)
                  · exact (fw.trans hf2).alloc _
                case round =>
                  obtain ⟨rfl, rfl, hf3, rfl⟩ := hrel
                  go_wp2
                  go_ret
                  exact ⟨rfl, hf3⟩
              · first
                  | exact absurd hr00 hr0
                  | (have HPP := Lib.hid (HP1.out hr0)
                     have hrb : decide ((0 : Int) < (r : Int)) = true := by simp; omega
                     have hrn : decide (0 < r) = true := by simp; omega
                     have HR0 := Lib.hid hr0
                     clear hr0
                     go_wp2
                     go_loopg [3, 7] 16 (fun gk u3 u7 wx => ∃ (S3 : ByteArray) (q j : Nat), u3 = .string S3 ∧ u7 = .int .i64 q ∧ PInv S3 q j v ∧ Fr No w wx ∧ gk = 16 - j)
                     case atStart =>
                       refine ⟨_, r, 0, rfl, rfl, ⟨HR16.out, Nat.one_dvd _, by omega, ?_, ?_⟩, (fw.trans hf2).alloc _, rfl⟩
                       · simp only [ByteArray.size_append]
                         have e1 : (⟨#[45]⟩ : ByteArray).size = 1 := rfl
                         have e2 : (⟨#[46]⟩ : ByteArray).size = 1 := rfl
                         have e3 : (⟨#[]⟩ : ByteArray).size = 0 := rfl
                         omega
                       · have hv := HNeg.out
                         simp only [decide_eq_true_iff, decide_eq_false_iff_not] at hv
                         first
                           | (have := HPP.out [45] (by rw [if_pos hv]); rw [← this]; simp)
                           | (have := HPP.out [] (by rw [if_neg hv]); rw [← this]; simp)
                     case round =>
                       obtain ⟨S3, q, j, rfl, rfl, hP, hf3, rfl⟩ := hrel
                       have hS40 : S3.size ≤ 40 := by have := hP.2.2.1; have := hP.2.2.2.1; omega
                       by_cases hq0 : q = 0
                       · subst hq0
                         go_wp2
                         go_ret
                         exact ⟨by rw [← hP.fin]; rfl, hf3⟩
                       · have hqd : decide ((0 : Int) < (q : Int)) = true := by simp; omega
                         obtain ⟨Q, hQ⟩ : ∃ Q, q * 10 = Q := ⟨_, rfl⟩
                         have hq16 := hP.1
                         have hm : (q : Int) * 10 = (Q : Int) := by omega
                         have hQb : Q ≤ 655350 := by omega
                         obtain ⟨e, he0⟩ : ∃ e, Q / 65536 = e := ⟨_, rfl⟩
                         obtain ⟨d3, hd3⟩ : ∃ d3, 48 + Q / 65536 = d3 := ⟨_, rfl⟩
                         obtain ⟨q', hq'⟩ : ∃ q', Q % 65536 = q' := ⟨_, rfl⟩
                         have he9 : e ≤ 9 := by omega
                         have k1 : (Q : Int).tdiv 65536 = (e : Int) := by rw [Int.tdiv_eq_ediv_of_nonneg (by omega)]; omega
                         have k2 : (Q : Int).tmod 65536 = (q' : Int) := by rw [Int.tmod_eq_emod_of_nonneg (by omega)]; omega
                         have hcv3 := one_byte wr (48 + (e : Int)) d3 (by omega) (by omega)
                         obtain ⟨T3, hT3⟩ : ∃ T3 : ByteArray, (⟨#[UInt8.ofNat d3]⟩ : ByteArray) = T3 := ⟨_, rfl⟩
                         have hT31 : T3.size = 1 := by rw [← hT3]; rfl
                         rw [hT3] at hcv3
                         have HT3 := Lib.hid hT3
                         have HQ := Lib.hid hQ
                         have HD3 := Lib.hid hd3
                         have HQ' := Lib.hid hq'
                         clear hT3 hQ hd3 hq' hq16 he0
                         go_wp2
                         go_roundg (16 - (j + 1))
                         case measure => have := (hP.step hq0 HQ.out HD3.out HQ'.out).1; omega
                         case rel => exact ⟨_, q', j + 1, rfl, rfl, by rw [← HT3.out]; exact (hP.step hq0 HQ.out HD3.out HQ'.out).2, hf3.alloc _, rfl⟩)
            · have hzb : ((z : Int) == 0) = false := by simp; omega
              have HDG : Hid (Lib.decDigits z ++ (T ++ S).data.toList = Lib.decDigits U) := by
                unfold Hid
                rw [← HS.out, ← HTT.out, data_append, Lib.decDigits.eq_def y, dif_neg (by omega), HZ.out, ← HDd.out, List.append_assoc]
              clear hz
              go_wp2
              go_roundg (z + 1)
              case measure => have := HZ.out; omega
              case rel => exact ⟨z, _, rfl, rfl, by have := HZ.out; omega, HDG.out, hf2.alloc _, rfl⟩
end Go.Proofs.YtchgjjegcoiepaaDoor
