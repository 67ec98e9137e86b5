/- script.Lines: the iterator's contract. -/
import Derived.Test.YtchgjjegcoiepaaDoorRng
import Derived.Test.YtchgjjegcoiepaaDoorCut
namespace Go.Proofs.YtchgjjegcoiepaaDoor
open Go.RowKit
attribute [local go_sem] Oper.semAt_some

theorem linA_len : ∀ (r cur : List UInt8), (linA cur r).length ≤ r.length + 1
  | [], cur => by unfold linA; split <;> simp
  | c :: r, cur => by
    unfold linA
    split
    · have := linA_len r []; simp; omega
    · have := linA_len r (cur ++ [c]); simp; omega
theorem linL_len (s : ByteArray) : (linL s.data.toList).length ≤ s.size + 1 := linA_len s.data.toList []

set_option maxRecDepth 100000 in
set_option maxHeartbeats 1000000 in
theorem lines1_in (n l tb : Nat) (s : ByteArray) (hs : s.size ≤ 140737488351232) (J : Nat → World → Prop) (Jx : World → Prop) (W : World) (hb : Bx W tb 9 (.string s)) (hn : 1 ≤ n)
    (hJ : ∀ k A B, J k A → Fr (One tb) A B → J k B)
    (hY : ∀ (k : Nat) (hk : k < (linL s.data.toList).length) (A : World), J k A → YieldAt Fence.wide (n - 1) Tryd.prog l #[.int .i64 ((k : Int) + 1), .string ⟨((linL s.data.toList)[k]).toArray⟩] A fun e B =>
      (e = .returned (.bool true) ∧ J (k + 1) B ∧ ∀ v, Bx A tb 9 v → Bx B tb 9 v) ∨ (e = .returned (.bool false) ∧ Jx B))
    (h0 : J 0 W) :
    CallsIn Fence.wide n Tryd.prog 44 #[.func (.yield l) #[] #[], .pointer (some ⟨tb, 0, none⟩)] W fun e B => (∃ v, e = .returned v) ∧ (J (linL s.data.toList).length B ∨ Jx B) := by
  obtain ⟨L, hL⟩ : ∃ L, linL s.data.toList = L := ⟨_, rfl⟩
  rw [hL] at hY ⊢
  have HL := Lib.hid hL
  have HLB : Hid (L.length ≤ s.size + 1) := by rw [← hL]; exact linL_len s
  have HY := Lib.hid hY
  have HJ := Lib.hid hJ
  clear hL hY hJ
  refine callsIn_of_wp Tryd.func44 rfl trivial ?_ rfl
  simp only [Tryd.ntmps44, List.size_toArray, List.length_cons, List.length_nil, Nat.reduceAdd, Nat.reduceSub, Array.replicate_succ, Array.replicate_zero, List.push_toArray, List.append_toArray, List.nil_append, List.cons_append]
  gi_wp2
  gi_loopw [3] (fun p wr => ∃ (k : Nat) (r : ByteArray), p = .int .i64 ((k : Int) + 1) ∧ k ≤ L.length ∧ r.size ≤ s.size ∧ Bx wr tb 9 (.string r) ∧ linL r.data.toList = L.drop k ∧ J k wr) (fun p _ => L.length + 1 - (intOf p).toNat)
  case atStart => exact ⟨0, s, rfl, Nat.zero_le _, Nat.le_refl _, hb, by rw [List.drop_zero]; exact HL.out, h0⟩
  case round =>
    obtain ⟨k, r, rfl, hk, hrs, hbr, hlr, hJk⟩ := hrel
    have HLR := Lib.hid hlr
    clear hlr
    have c1 := hbr.c
    have hk63 : L.length ≤ s.size + 1 := HLB.out
    by_cases h0 : r.size = 0
    · have hL0 : Hid (L.length = k) := by
        have h1 := HLR.out
        have h2 : r.data.toList = [] := List.eq_nil_of_length_eq_zero h0
        rw [h2] at h1
        have h3 := congrArg List.length h1
        simp [linL, linA] at h3
        unfold Hid; omega
      have hre : r.toList.isEmpty = true := by
        rw [ByteArray.toList_eq, List.eq_nil_of_length_eq_zero (show r.data.toList.length = 0 from h0)]; rfl
      gi_wp2
      go_end0
      refine ⟨⟨_, rfl⟩, .inl ?_⟩
      rw [hL0.out]; exact hJk
    · have hcut := linL_cut r h0
      have hcs := cutF_size r
      have HC := Lib.hid (cut_any r 10 wr (by omega))
      obtain ⟨R, hR⟩ : ∃ R, cutF r 10 = R := ⟨_, rfl⟩
      rw [hR] at HC hcut hcs
      clear hR
      obtain ⟨ln, rest, fnd⟩ := R
      unfold CutPost at HC
      dsimp only at HC hcut hcs
      have hkl : k < L.length := by
        have h1 := congrArg List.length (HLR.out.symm.trans hcut)
        simp at h1; omega
      have hln : Hid (L[k] = ln.data.toList ∧ linL rest.data.toList = L.drop (k + 1)) := by
        have h1 := HLR.out.symm.trans hcut
        rw [List.drop_eq_getElem_cons hkl] at h1
        injection h1 with h1 h2
        exact ⟨h1, h2.symm⟩
      have HY2 : Hid (∀ A, J k A → YieldAt Fence.wide (n - 1) Tryd.prog l #[.int .i64 ((k : Int) + 1), .string ln] A fun e B =>
          (e = .returned (.bool true) ∧ J (k + 1) B ∧ ∀ v, Bx A tb 9 v → Bx B tb 9 v) ∨ (e = .returned (.bool false) ∧ Jx B)) := by
        intro A hA
        have := HY.out k hkl A hA
        rw [hln.out.1] at this
        exact this
      have hre : r.toList.isEmpty = false := by
        rw [ByteArray.toList_eq]
        cases hd : r.data.toList with
        | nil => exact absurd (show r.size = 0 by show r.data.toList.length = 0; rw [hd]; rfl) h0
        | cons => rfl
      clear hcut
      gi_wp2_with (refine ⟨trivial, ?_⟩; gi_at_call 45; refine (callsIn_wide.2 HC.out).mono ?_; rintro e w1 ⟨rfl, f1⟩; obtain ⟨fn, tmps, assign, body, hy, hR⟩ := HY2.out w1 (HJ.out k wr w1 hJk (f1.mono (fun _ _ h => h.elim))); have hb1 := hbr.fr f1 id)
      refine hR.mono ?_
      rintro e W3 (⟨rfl, hJ3, hk3⟩ | ⟨rfl, hJx3⟩)
      · have hb3 := hk3 _ hb1
        have c3 := hb3.c
        have f3 := hb3.f
        gi_wp2
        go_roundw
        case rel => exact ⟨k + 1, rest, by go_num, by omega, by omega, hb3.set _, hln.out.2, HJ.out _ _ _ hJ3 ((Fr.refl W3).set1 _ _)⟩
        case measure => simp [intOf]; omega
      · gi_wp2
        refine bodyPost_ret (results_none rfl _ _ _) rfl ?_
        exact ⟨⟨_, rfl⟩, .inr hJx3⟩
end Go.Proofs.YtchgjjegcoiepaaDoor
