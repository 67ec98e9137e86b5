/- strings.Cut at one byte; lines. -/
import Derived.Test.YtchgjjegcoiepaaDoorBase
import Derived.Test.YtchgjjegcoiepaaDoorLib2
import Derived.Lib.IndexLaws
import Derived.Test.YtchgjjegcoiepaaDoorArg
namespace Go.Proofs.YtchgjjegcoiepaaDoor
open Go.RowKit

/-- a text up to a byte, what is behind it, and whether it is there. -/
def cutF (s : ByteArray) (c : UInt8) : ByteArray × ByteArray × Bool :=
  if 0 ≤ Lib.indexByte s.data.toList c then (s.extract 0 (Lib.indexByte s.data.toList c).toNat, s.extract ((Lib.indexByte s.data.toList c).toNat + 1) s.size, true) else (s, ⟨#[]⟩, false)
def CutPost (w : World) (r : ByteArray × ByteArray × Bool) (e : Ending) (w' : World) : Prop := e = .returned (.tuple #[.string r.1, .string r.2.1, .bool r.2.2]) ∧ Fr No w w'

set_option maxHeartbeats 1000000 in
theorem cut83_any (s : ByteArray) (c : UInt8) (w : World) (hs : s.size ≤ 140737488351232) : Calls Tryd.prog 83 #[.string s, .string ⟨#[c]⟩] w (CutPost w (cutF s c)) := by
  have HI := Lib.hid (fun w => Tryd.stringslite_Index_one s c w)
  have hge := Lib.indexByte_ge s.data.toList c
  have hlt : Lib.indexByte s.data.toList c < s.size := by
    rcases Int.lt_or_le (Lib.indexByte s.data.toList c) 0 with h | h
    · omega
    · obtain ⟨o, ho⟩ : ∃ o : Nat, Lib.indexByte s.data.toList c = o := ⟨_, (Int.toNat_of_nonneg h).symm⟩
      have h1 := (Lib.indexByte_some ho).1
      have h2 := (List.getElem?_eq_some_iff.1 h1).1
      rw [ho]
      have : s.data.toList.length = s.size := by simp
      omega
  obtain ⟨R, hR⟩ : ∃ R, cutF s c = R := ⟨_, rfl⟩
  rw [hR]
  unfold cutF at hR
  obtain ⟨i, hi⟩ : ∃ i, Lib.indexByte s.data.toList c = i := ⟨_, rfl⟩
  rw [hi] at HI hge hlt hR
  clear hi
  obtain ⟨S1, hS1⟩ : ∃ S1 : ByteArray, ⟨#[c]⟩ = S1 := ⟨_, rfl⟩
  have e1 : S1.size = 1 := by rw [← hS1]; rfl
  rw [hS1] at HI ⊢
  clear hS1
  by_cases h0 : 0 ≤ i
  · rw [if_pos h0] at hR
    obtain ⟨k, rfl⟩ : ∃ k : Nat, i = k := ⟨_, (Int.toNat_of_nonneg h0).symm⟩
    have hks : k < s.size := by omega
    simp only [Int.toNat_natCast] at hR
    have HR := Lib.hid hR
    clear hR
    go_enter Tryd.func83, Tryd.ntmps83
    go_upto_region 3 with (go_at_call 93; refine (HI.out _).mono ?_; rintro e w' ⟨rfl, rfl⟩)
    have hk64 : IntKind.i64.wrap ((k : Int) + 1) = (k : Int) + 1 := by rw [IntKind.wrap_i64]; omega
    have hk1 : ((k : Int) + 1).toNat = k + 1 := by omega
    have hk2 : (0 : Int) ≤ (k : Int) + 1 := by omega
    go_quiet (fail)
    clear hk64 hk1 hk2
    go_wp2
    go_ret3
    rw [← HR.out]
    exact ⟨rfl, (Fr.refl _).drewN _⟩
  · rw [if_neg h0] at hR
    have HR := Lib.hid hR
    clear hR
    go_enter Tryd.func83, Tryd.ntmps83
    go_wp2_with (go_at_call 93; refine (HI.out _).mono ?_; rintro e w' ⟨rfl, rfl⟩)
    go_ret3
    rw [← HR.out]
    exact ⟨rfl, Fr.refl _⟩
theorem cut_any (s : ByteArray) (c : UInt8) (w : World) (hs : s.size ≤ 140737488351232) : Calls Tryd.prog 45 #[.string s, .string ⟨#[c]⟩] w (CutPost w (cutF s c)) := by
  have HC := Lib.hid (cut83_any s c w hs)
  obtain ⟨R, hR⟩ : ∃ R, cutF s c = R := ⟨_, rfl⟩
  rw [hR] at HC ⊢
  clear hR
  obtain ⟨a, b, f⟩ := R
  unfold CutPost at HC ⊢
  dsimp only at HC ⊢
  go_enter Tryd.func45, Tryd.ntmps45
  go_wp2_with (go_at_call 83; refine HC.out.mono ?_; rintro e w' ⟨rfl, f1⟩)
  go_ret3
  exact ⟨rfl, f1⟩

/-- a text's lines. -/
def linA : List UInt8 → List UInt8 → List (List UInt8)
  | cur, [] => if cur = [] then [] else [cur]
  | cur, c :: r => if c = 10 then cur :: linA [] r else linA (cur ++ [c]) r
def linL (l : List UInt8) : List (List UInt8) := linA [] l
theorem linA_cut : ∀ (r cur : List UInt8), (∀ k, Lib.indexByte r 10 = (k : Nat) → linA cur r = (cur ++ r.take k) :: linA [] (r.drop (k + 1))) ∧ (Lib.indexByte r 10 = -1 → linA cur r = if cur ++ r = [] then [] else [cur ++ r])
  | [], cur => by
    refine ⟨fun k h => ?_, fun _ => by simp [linA]⟩
    simp [Lib.indexByte] at h
  | c :: r, cur => by
    obtain ⟨h1, h2⟩ := linA_cut r (cur ++ [c])
    by_cases hc : c = 10
    · subst hc
      refine ⟨fun k h => ?_, fun h => ?_⟩
      · simp [Lib.indexByte] at h
        have : k = 0 := by omega
        subst this
        simp [linA]
      · simp [Lib.indexByte] at h
    · refine ⟨fun k h => ?_, fun h => ?_⟩
      · simp only [Lib.indexByte, beq_iff_eq, hc, if_false] at h
        split at h
        · omega
        · obtain ⟨m, rfl⟩ : ∃ m, k = m + 1 := ⟨k - 1, by have := Lib.indexByte_ge r 10; omega⟩
          have := h1 m (by omega)
          simp [linA, hc, this]
      · simp only [Lib.indexByte, beq_iff_eq, hc, if_false] at h
        split at h
        · rename_i he
          have := h2 he
          simp [linA, hc, this]
        · have := Lib.indexByte_ge r 10; omega
theorem linL_cut (s : ByteArray) (h : s.size ≠ 0) : linL s.data.toList = (cutF s 10).1.data.toList :: linL (cutF s 10).2.1.data.toList := by
  obtain ⟨h1, h2⟩ := linA_cut s.data.toList []
  unfold cutF linL
  split
  · rename_i h0
    obtain ⟨k, hk⟩ : ∃ k : Nat, Lib.indexByte s.data.toList 10 = k := ⟨_, (Int.toNat_of_nonneg h0).symm⟩
    rw [h1 k hk, hk]
    simp only [Int.toNat_natCast, ByteArray.data_extract, Array.toList_extract, List.extract_eq_take_drop, List.nil_append]
    congr 2
    have : s.size = s.data.toList.length := rfl
    rw [this]
    rw [List.take_of_length_le (by simp)]
  · rename_i h0
    have hm : Lib.indexByte s.data.toList 10 = -1 := by have := Lib.indexByte_ge s.data.toList 10; omega
    rw [h2 hm, if_neg]
    · simp [linA]
    · intro he
      rw [List.nil_append] at he
      have : s.size = s.data.toList.length := rfl
      rw [he] at this
      exact h this
theorem cutF_size (s : ByteArray) : (cutF s 10).1.size ≤ s.size ∧ (cutF s 10).2.1.size ≤ s.size := by
  unfold cutF
  split
  · constructor
    · simp only [ByteArray.size_extract]; omega
    · simp only [ByteArray.size_extract]; omega
  · exact ⟨Nat.le_refl _, Nat.zero_le _⟩
end Go.Proofs.YtchgjjegcoiepaaDoor
