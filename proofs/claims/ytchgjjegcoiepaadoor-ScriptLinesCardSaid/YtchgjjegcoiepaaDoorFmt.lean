import Derived.Test.YtchgjjegcoiepaaDoorBld
import Derived.Lib.AppendIntMem
import Derived.Shelf.Strconv.Itoa3
import Derived.Lib.ItoaLen
namespace Go.Proofs.YtchgjjegcoiepaaDoor
open Go.RowKit Go.Sort Go.Lib

def TabP (w : World) : Prop := Lib.TabIs Tryd.prog w "internal/strconv.uint64pow10" .u64 Lib.pow10Tab

set_option maxHeartbeats 6400000 in
set_option maxRecDepth 100000 in
theorem FormatUint_i (u : Nat) (hu64 : u < 18446744073709551616) (w : World) (htab : TabP w) :
    Calls Tryd.prog 88 #[.int .u64 u, .int .i64 10] w fun e w' => e = .returned (.string ⟨(Lib.decDigits u).toArray⟩) ∧ ∃ k os, w' = grow (w.drewN k) os := by
  by_cases hs : u < 100
  · go_enter Tryd.func88, Tryd.ntmps88
    go_wp2_with (go_at_call 106; refine (Tryd.internal_strconv_small u hs _).mono ?_; rintro e w' ⟨rfl, rfl⟩)
    go_ret
    exact ⟨rfl, 0, #[], by simp [World.drewN_zero]⟩
  · have hu1 : 1 ≤ u := by omega
    have hnd20 : Lib.nDigits u ≤ 20 := by have := Lib.numDigits_eq u hu1 hu64; split at this <;> omega
    have hb3 : Lib.nDigits u ≤ 24 := by omega
    have hal : Tryd.prog.arrayLen 160 = 24 := by simp [Program.arrayLen, Tryd.underlying160]
    have hsl1 : ∀ W, (Instr.sliceAt 160 (.pointer (some ⟨w.heap.size, 0, none⟩)) none (some (.int .i64 (Lib.nDigits u : Int))) none).run Tryd.prog W = .ok (.slice (some ⟨w.heap.size, 0, none⟩) (Lib.nDigits u) 24) W := fun W => by
      rw [run_sliceAt_array_h W 160 ⟨w.heap.size, 0, none⟩ (by simp [Program.arrayLen, Program.elem, Tryd.underlying160]) .i64 (Lib.nDigits u : Int) (by omega) (by rw [hal]; omega)]
      go_simp
    have hH0 := Lib.holds_zero0 w 160 (Lib.nDigits u) (by omega)
    have hfmt := Tryd.internal_strconv_formatBase10 w.heap.size 0 24 u (Array.replicate (Lib.nDigits u) 0) (w.alloc (.cells Lib.zeros24 160)) hH0 (by rw [Array.size_replicate]; exact Lib.lt_pow_nDigits u) hu64 (by rw [Array.size_replicate]; omega)
    rw [Array.size_replicate] at hfmt
    have HH0 := Lib.hid hH0
    clear hH0 hal
    go_enter Tryd.func88, Tryd.ntmps88
    go_wp2_with (first
      | (go_at_call 107; refine (Tryd.internal_strconv_numDigits u hu1 hu64 _ (Lib.tabIs_alloc htab _)).mono ?_; rintro e w' ⟨rfl, rfl⟩))
    go_at_call 108
    refine hfmt.mono ?_
    rintro e w' ⟨rfl, k, v', dk, rfl, hF⟩
    have hcv : (convert 62 9 (.slice (some ⟨w.heap.size, 0, none⟩) (Lib.nDigits u) 24)).run Tryd.prog ((putRow (fun (b : UInt8) => Value.int .u8 (b.toNat : Int)) (w.alloc (.cells Lib.zeros24 160)) w.heap.size 0 dk).drewN k) = .ok (.string ⟨(Lib.decDigits u).toArray⟩) ((putRow (fun (b : UInt8) => Value.int .u8 (b.toNat : Int)) (w.alloc (.cells Lib.zeros24 160)) w.heap.size 0 dk).drewN k) := by
      have h := run_convert_bytes_back (P := Tryd.prog) ((putRow (fun (b : UInt8) => Value.int .u8 (b.toNat : Int)) (w.alloc (.cells Lib.zeros24 160)) w.heap.size 0 dk).drewN k) 62 9 5 ⟨w.heap.size, 0, none⟩ 24 (Lib.decDigits u) Tryd.underlying62 Tryd.underlying5 Tryd.underlying9 (fun j hj => by
        rw [Lib.row_is_numeral hF j hj, Lib.add_plain, World.cell?_drewN]
        exact cell?_putRow (fun (b : UInt8) => Value.int .u8 (b.toNat : Int)) _ w.heap.size 0 _ dk HH0.out (by rw [hF.size, Array.size_replicate]) j (by rw [hF.size]; rw [Lib.decDigits_length] at hj; exact hj))
      rw [Lib.decDigits_length] at h
      exact h
    go_wp2
    go_ret
    refine ⟨rfl, k, ?_⟩
    rw [alloc_eq_grow]
    obtain ⟨os', _, e⟩ := putRow_grow_new (fun (b : UInt8) => Value.int .u8 (b.toNat : Int)) w #[.cells Lib.zeros24 160] w.heap.size 0 dk (Nat.le_refl _)
    exact ⟨os', by rw [e]; rfl⟩

theorem FormatUint_any (u : Nat) (hu64 : u < 18446744073709551616) (w : World) (htab : TabP w) :
    Calls Tryd.prog 59 #[.int .u64 u, .int .i64 10] w fun e w' => e = .returned (.string ⟨(Lib.decDigits u).toArray⟩) ∧ Fr No w w' := by
  have H := Lib.hid (FormatUint_i u hu64 w htab)
  go_enter Tryd.func59, Tryd.ntmps59
  go_wp2_with (go_at_call 88; refine H.out.mono ?_; rintro e w' ⟨rfl, k, os, rfl⟩)
  go_ret
  refine ⟨rfl, rfl, rfl, rfl, ?_, ?_⟩
  · simp [grow]
  · intro i hi _
    exact Lib.heap_grow_old w k os i hi

/-- the digits behind the point. -/
def frac : Nat → Nat → List UInt8
  | 0, _ => []
  | n + 1, r => if r = 0 then [] else UInt8.ofNat (48 + r * 10 / 65536) :: frac n (r * 10 % 65536)
def prL (v : Int) : List UInt8 := (if v < 0 then [45] else []) ++ Lib.decDigits (v.natAbs / 65536) ++ (if v.natAbs % 65536 = 0 then [] else 46 :: frac 16 (v.natAbs % 65536))
def prF (v : Int) : ByteArray := ⟨(prL v).toArray⟩


theorem and16 (n : Nat) (h : n < 18446744073709551616) : bits .and .u64 (n : Int) 65535 = ((n % 65536 : Nat) : Int) := by
  have := u64_and_nat n 65535 h (by decide)
  rw [show ((65535 : Nat) : Int) = 65535 from rfl] at this
  rw [this, show (65535 : Nat) = 2 ^ 16 - 1 from rfl, Nat.and_two_pow_sub_one_eq_mod]
theorem enc_digit (d : Nat) (h : d < 128) : Utf8.encode (d : Int) = ⟨#[UInt8.ofNat d]⟩ := by
  have : ∀ d : Fin 128, Utf8.encode ((d : Nat) : Int) = ⟨#[UInt8.ofNat d]⟩ := by decide
  exact this ⟨d, h⟩

def PInv (S : ByteArray) (q j : Nat) (v : Int) : Prop := q < 65536 ∧ 2 ^ j ∣ q ∧ j ≤ 16 ∧ S.size ≤ 22 + j ∧ S.data.toList ++ frac (16 - j) q = prL v

theorem data_append (a b : ByteArray) : (a ++ b).data.toList = a.data.toList ++ b.data.toList := by simp
theorem PInv.fin {S : ByteArray} {j : Nat} {v : Int} (h : PInv S 0 j v) : S = prF v := by
  have h4 := h.2.2.2.2
  have : frac (16 - j) 0 = [] := by cases 16 - j <;> simp [frac]
  rw [this, List.append_nil] at h4
  unfold prF
  rw [← h4]
theorem PInv.step {S : ByteArray} {q j d Q q' : Nat} {v : Int} (h : PInv S q j v) (hq : q ≠ 0) (hQ : q * 10 = Q) (hd : 48 + Q / 65536 = d) (hq' : Q % 65536 = q') : j < 16 ∧ PInv (S ++ ⟨#[UInt8.ofNat d]⟩) q' (j + 1) v := by
  obtain ⟨h1, h2, h3, h4, h5⟩ := h
  have hj : j < 16 := by
    rcases Nat.lt_or_ge j 16 with h | h
    · exact h
    · have : j = 16 := by omega
      subst this
      have := Nat.le_of_dvd (by omega) h2
      omega
  refine ⟨hj, by omega, ?_, hj, ?_, ?_⟩
  · rw [← hq', Nat.dvd_mod_iff (Nat.pow_dvd_pow 2 (show j + 1 ≤ 16 from hj)), ← hQ, Nat.pow_succ]
    exact Nat.mul_dvd_mul h2 (by decide)
  · show (S ++ (⟨#[UInt8.ofNat d]⟩ : ByteArray)).size ≤ _
    rw [ByteArray.size_append]
    have : (⟨#[UInt8.ofNat d]⟩ : ByteArray).size = 1 := rfl
    omega
  · rw [data_append, ← h5, List.append_assoc]
    congr 1
    rw [show 16 - j = (16 - (j + 1)) + 1 from by omega, frac, if_neg hq, hQ, hd, hq']
    rfl

set_option maxRecDepth 100000 in
set_option maxHeartbeats 4000000 in
theorem Print_any (v : Int) (h1 : -9223372036854775808 ≤ v) (h2 : v ≤ 9223372036854775807) (w : World) (htab : TabP w) :
    Calls Tryd.prog 30 #[.int .i64 v] w fun e w' => e = .returned (.string (prF v)) ∧ Fr No w w' := by
  have hN : v.natAbs < 18446744073709551616 := by omega
  obtain ⟨N, hNN⟩ : ∃ N, v.natAbs = N := ⟨_, rfl⟩
  rw [hNN] at hN
  have hsg : (decide (v < 0) = true ∧ IntKind.u64.wrap (-IntKind.u64.wrap v) = (N : Int)) ∨ (decide (v < 0) = false ∧ IntKind.u64.wrap v = (N : Int)) := by
    by_cases hv : v < 0
    · exact .inl ⟨by simp [hv], by rw [IntKind.wrap_u64, IntKind.wrap_u64]; omega⟩
    · exact .inr ⟨by simp [hv], by rw [IntKind.wrap_u64]; omega⟩
  have HF := Lib.hid (fun w (h : TabP w) => FormatUint_any (N / 65536) (by omega) w h)
  obtain ⟨D, hD⟩ : ∃ D : ByteArray, (⟨(Lib.decDigits (N / 65536)).toArray⟩ : ByteArray) = D := ⟨_, rfl⟩
  have hDs : D.size ≤ 20 := by
    rw [← hD]
    show (Lib.decDigits (N / 65536)).toArray.size ≤ 20
    rw [List.size_toArray, Lib.decDigits_length]
    exact Lib.nDigits_le20 _ (by omega)
  rw [hD] at HF
  have HDD := Lib.hid hD
  clear hD
  have HP : Hid (prL v = (if v < 0 then [45] else []) ++ Lib.decDigits (N / 65536) ++ (if N % 65536 = 0 then [] else 46 :: frac 16 (N % 65536))) := by
    unfold Hid; rw [← hNN]; rfl
  have HV := Lib.hid h1
  have hand := and16 N hN
  obtain ⟨r, hr⟩ : ∃ r, N % 65536 = r := ⟨_, rfl⟩
  have hr16 : Hid (r < 65536) := by unfold Hid; omega
  rw [hr] at HP hand
  clear hr hN h1 h2 hNN
  by_cases hr0 : r = 0
  · have hre : ((r : Int) == 0) = true := by simp [hr0]
    have HR0 := Lib.hid hr0
    clear hr0
    rcases hsg with ⟨hv, hw⟩ | ⟨hv, hw⟩
    all_goals
      go_enter Tryd.func30, Tryd.ntmps30
      go_wp2_with (go_at_call 59; refine (HF.out _ htab).mono ?_; rintro e w1 ⟨rfl, f1⟩)
      go_ret
      refine ⟨?_, f1⟩
      have hpp : prF v = ⟨(prL v).toArray⟩ := rfl
      rw [hpp, HP.out, if_pos HR0.out, List.append_nil, ← HDD.out]
      simp only [decide_eq_true_iff, decide_eq_false_iff_not] at hv
      first | rw [if_pos hv] | rw [if_neg hv]
      show Ending.returned (.string _) = _
      congr 2
  · have hre : ((r : Int) == 0) = false := by simp; omega
    have HR0 := Lib.hid hr0
    clear hr0
    rcases hsg with ⟨hv, hw⟩ | ⟨hv, hw⟩
    all_goals
      go_enter Tryd.func30, Tryd.ntmps30
      go_wp2_with (go_at_call 59; refine (HF.out _ htab).mono ?_; rintro e w1 ⟨rfl, f1⟩)
      go_loopg [4, 5] 16 (fun gk u4 u5 wx => ∃ (S : ByteArray) (q j : Nat), u4 = .string S ∧ u5 = .int .u64 q ∧ PInv S q j v ∧ Fr No w wx ∧ gk = 16 - j)
      case atStart =>
        refine ⟨_, r, 0, rfl, rfl, ⟨hr16.out, Nat.one_dvd _, by omega, ?_, ?_⟩, f1, rfl⟩
        · simp only [ByteArray.size_append]
          have e1 : (⟨#[45]⟩ : ByteArray).size = 1 := rfl
          have e2 : (⟨#[46]⟩ : ByteArray).size = 1 := rfl
          have e3 : (⟨#[]⟩ : ByteArray).size = 0 := rfl
          omega
        · rw [HP.out, if_neg HR0.out, data_append, data_append, ← HDD.out]
          simp only [decide_eq_true_iff, decide_eq_false_iff_not] at hv
          first | rw [if_pos hv] | rw [if_neg hv]
          simp
      case round =>
        obtain ⟨S, q, j, rfl, rfl, hP, hf, rfl⟩ := hrel
        have hS40 : S.size ≤ 40 := by have := hP.2.2.1; have := hP.2.2.2.1; omega
        by_cases hq0 : q = 0
        · subst hq0
          go_wp2
          go_ret
          exact ⟨by rw [← hP.fin]; rfl, hf⟩
        · have hqd : decide ((0 : Int) < (q : Int)) = true := by simp; omega
          obtain ⟨Q, hQ⟩ : ∃ Q, q * 10 = Q := ⟨_, rfl⟩
          have hq16 := hP.1
          have hm : IntKind.u64.wrap ((q : Int) * 10) = (Q : Int) := by rw [IntKind.wrap_u64]; omega
          obtain ⟨d, hd⟩ : ∃ d, 48 + Q / 65536 = d := ⟨_, rfl⟩
          have hd58 : d < 58 := by omega
          obtain ⟨e, he0⟩ : ∃ e, Q / 65536 = e := ⟨_, rfl⟩
          have hsh : (Q : Int) / 65536 = (e : Int) := by omega
          have ha : IntKind.u64.wrap (48 + (e : Int)) = (d : Int) := by rw [IntKind.wrap_u64]; omega
          clear he0
          obtain ⟨T, hT⟩ : ∃ T : ByteArray, (⟨#[UInt8.ofNat d]⟩ : ByteArray) = T := ⟨_, rfl⟩
          have hT1 : T.size = 1 := by rw [← hT]; rfl
          have hcv : ∀ W, (convert 5 9 (.int .u8 (d : Int))).run Tryd.prog W = .ok (.string T) W := fun W => by
            rw [run_convert_int_string W 5 9 .u8 d (by rw [Tryd.underlying5]; rfl) Tryd.underlying9, enc_digit d (by omega), hT]
          have HT := Lib.hid hT
          clear hT
          have hn := and16 Q (by omega)
          obtain ⟨q', hq'⟩ : ∃ q', Q % 65536 = q' := ⟨_, rfl⟩
          rw [hq'] at hn
          have HQ := Lib.hid hQ
          have HD := Lib.hid hd
          have HQ' := Lib.hid hq'
          clear hQ hd hq' hq16
          go_wp2
          go_roundg (16 - (j + 1))
          case measure => have := (hP.step hq0 HQ.out HD.out HQ'.out).1; omega
          case rel => exact ⟨_, q', j + 1, rfl, rfl, by rw [← HT.out]; exact (hP.step hq0 HQ.out HD.out HQ'.out).2, hf, rfl⟩
end Go.Proofs.YtchgjjegcoiepaaDoor
