/- script's reader: a whole number, a canvas's line. -/
import Derived.Test.YtchgjjegcoiepaaDoorRdr
import Derived.Test.YtchgjjegcoiepaaDoorPrint
import Derived.Lib.AtoiErrMem
import Derived.Lib.AtoiAll
namespace Go.Proofs.YtchgjjegcoiepaaDoor
open Go.RowKit

/-- strconv's two errors lie where the program lays them. -/
def TabE (w : World) : Prop := (∃ te pe, w.cell? ⟨10, 0, none⟩ = some (.iface te pe)) ∧ ∃ te pe, w.cell? ⟨11, 0, none⟩ = some (.iface te pe)
theorem TabE.fr {P : Nat → Prop} {w w' : World} (h : TabE w) (f : Fr P w w') (hP : ∀ k, k < 14 → ¬ P k) : TabE w' := by
  obtain ⟨⟨t1, p1, h1⟩, t2, p2, h2⟩ := h
  have lt : ∀ (k : Nat) (v : Value), w.cell? ⟨k, 0, none⟩ = some v → k < w.heap.size := by
    intro k v hv
    rcases Nat.lt_or_ge k w.heap.size with h | h
    · exact h
    · simp [World.cell?, Array.getElem?_eq_none h] at hv
  exact ⟨⟨t1, p1, (f.cell (p := ⟨10, 0, none⟩) (lt 10 _ h1) (hP 10 (by omega))).trans h1⟩, t2, p2, (f.cell (p := ⟨11, 0, none⟩) (lt 11 _ h2) (hP 11 (by omega))).trans h2⟩

theorem itoa_any (n : Int) (h0 : -9223372036854775808 ≤ n) (h1 : n ≤ 9223372036854775807) (w : World) (htab : TabP w) :
    Calls Tryd.prog 46 #[.int .i64 n] w fun e w' => e = .returned (.string ⟨(Lib.itoa n).toArray⟩) ∧ Fr No w w' := by
  refine (Tryd.strconv_Itoa n h0 h1 w htab).mono ?_
  rintro e w' ⟨rfl, k, os, rfl⟩
  refine ⟨rfl, rfl, rfl, rfl, ?_, ?_⟩
  · simp [Sort.grow]
  · intro i hi _
    exact Lib.heap_grow_old w k os i hi
/-- what Atoi hands back. -/
def AtoiPost (w : World) (s : ByteArray) (e : Ending) (w' : World) : Prop :=
  (∃ n ev, e = .returned (.tuple #[.int .i64 n, ev]) ∧ ((Lib.atoiAll s.data.toList = .ok n ∧ ev = .nilIface) ∨ ((∀ v, Lib.atoiAll s.data.toList ≠ .ok v) ∧ ∃ N, ev = .iface 190 (.pointer (some ⟨N, 0, none⟩))))) ∧ Fr No w w'
theorem atoi_call (s : ByteArray) (w : World) (hs : s.size ≤ 140737488351232) (hE : TabE w) : Calls Tryd.prog 94 #[.string s] w (AtoiPost w s) := by
  obtain ⟨⟨t1, p1, h1⟩, t2, p2, h2⟩ := hE
  cases hA : Lib.atoiAll s.data.toList
  case ok v =>
    refine (Tryd.strconv_Atoi_ok s (by omega) v hA w).mono ?_
    rintro e w' ⟨rfl, hw⟩
    refine ⟨⟨v, _, rfl, .inl ⟨hA, rfl⟩⟩, ?_⟩
    rcases hw with rfl | ⟨t, rfl⟩
    · exact Fr.refl _
    · exact Fr.of_below (Lib.bytesWorld_below _ _ _)
  case range =>
    refine (Tryd.strconv_Atoi_range s (by omega) hA _ w h2 (.inr ⟨_, _, rfl⟩)).mono ?_
    rintro e w' ⟨N, rfl, _, _, hb⟩
    exact ⟨⟨_, _, rfl, .inr ⟨(fun v => by rw [hA]; intro h; cases h), N, rfl⟩⟩, Fr.of_below hb⟩
  · refine (Tryd.strconv_Atoi_syn s (by omega) hA _ w h1 (.inr ⟨_, _, rfl⟩)).mono ?_
    rintro e w' ⟨N, rfl, _, _, hb⟩
    exact ⟨⟨_, _, rfl, .inr ⟨(fun v => by rw [hA]; intro h; cases h), N, rfl⟩⟩, Fr.of_below hb⟩

def okW (w : ByteArray) (most : Nat) : Option Nat :=
  match Lib.atoiAll w.data.toList with
  | .ok n => if w.size ≤ 6 ∧ n ≤ most ∧ Lib.itoa n = w.data.toList ∧ w.data.toList.head? ≠ some 45 then some n.toNat else none
  | _ => none
def wholeF (most : Nat) (r : RS) : Nat × RS := match okW (wordF r).1 most with | some n => (n, (wordF r).2) | none => (0, { (wordF r).2 with bad := true })
theorem atoi_bd (l : List UInt8) (n : Int) (h : Lib.atoiAll l = .ok n) : -9223372036854775808 ≤ n ∧ n ≤ 9223372036854775807 ∧ l ≠ [] := by
  cases l with
  | nil => simp [Lib.atoiAll] at h
  | cons c r =>
    unfold Lib.atoiAll at h
    dsimp only at h
    split at h
    · cases h
    · cases h
    · split at h
      · cases h
      · split at h
        · cases h
        · injection h with h
          refine ⟨?_, ?_, by simp⟩
          · split at h <;> omega
          · split at h <;> omega

theorem neq_strs {a b : ByteArray} (h : a ≠ b) : (a.toList == b.toList) = false := by
  rw [beq_eq_false_iff_ne, ByteArray.toList_eq, ByteArray.toList_eq]
  intro h'
  exact h (by cases a; cases b; congr 1; exact Array.toList_inj.1 h')
theorem head_byte (S : ByteArray) (h : 0 < S.size) : S.data.toList.head? = some S[0] := by
  rw [List.head?_eq_getElem?, List.getElem?_eq_getElem (by simpa using h)]; rfl

set_option maxRecDepth 100000 in
set_option maxHeartbeats 2000000 in
theorem whole_any (b : Nat) (most : Nat) (r : RS) (w : World) (h : Rq w b r) (hb : 14 ≤ b) (hs : r.left.size ≤ 140737488351232) (hm : most ≤ 999999) (hE : TabE w) (hP : TabP w) :
    Calls Tryd.prog 74 #[.pointer (some ⟨b, 0, none⟩), .int .i64 most] w (RsPost b w (.int .i64 (wholeF most r).1) (wholeF most r).2) := by
  have HW := Lib.hid (word_any b r w h hs)
  have hws := wordF_size r
  have HR : Hid (wholeF most r = match okW (wordF r).1 most with | some n => (n, (wordF r).2) | none => (0, { (wordF r).2 with bad := true })) := rfl
  obtain ⟨R, hR⟩ : ∃ R, wholeF most r = R := ⟨_, rfl⟩
  rw [hR] at HR ⊢
  clear hR
  obtain ⟨x, hx⟩ : ∃ x, wordF r = x := ⟨_, rfl⟩
  rw [hx] at HW HR hws
  clear hx
  obtain ⟨wd, r1⟩ := x
  dsimp only at HW HR hws
  have hP14 : ∀ k, k < 14 → ¬ One b k := fun k hk e => by have : k = b := e; omega
  have HEE : Hid (TabE w) := hE
  have HPP : Hid (TabP w) := hP
  clear hE hP
  have hwd : wd.size ≤ 140737488351232 := by omega
  unfold RsPost at HW
  go_enter Tryd.func74, Tryd.ntmps74
  go_upto_region 2 with (go_at_call 73; refine HW.out.mono ?_; rintro e w1 ⟨rfl, q1, f1⟩)
  have HA := Lib.hid (atoi_call wd w1 hwd (HEE.out.fr f1 hP14))
  go_upto_region 3 with (go_at_call 94; refine HA.out.mono ?_; rintro e w2 ⟨⟨n, ev, rfl, hn⟩, f2⟩)
  have q2 := q1.fr f2 id
  have f02 := f1.trans (f2.mono (fun _ _ h => h.elim))
  have z2 := q2.fz 2
  have d2 := q2.c2
  rcases hn with ⟨ha, rfl⟩ | ⟨ha, N, rfl⟩
  case inr =>
    have HB : Hid (R = (0, { r1 with bad := true })) := by
      unfold Hid
      rw [HR.out]
      have : okW wd most = none := by
        unfold okW
        split
        · rename_i v hv; exact absurd hv (ha v)
        · rfl
      rw [this]
    clear ha
    go_wp2
    go_ret
    rw [HB.out]
    exact ⟨rfl, q2.s2 true, f02.set1 _ _⟩
  case inl =>
    obtain ⟨n1, n2, n3⟩ := atoi_bd _ _ ha
    have HIt := Lib.hid (fun w (hw : TabP w) => itoa_any n n1 n2 w hw)
    have hP2 : Hid (TabP w2) := TabP.fr HPP.out f02 hP14
    obtain ⟨S, hS⟩ : ∃ S : ByteArray, ⟨(Lib.itoa n).toArray⟩ = S := ⟨_, rfl⟩
    rw [hS] at HIt
    have HSS := Lib.hid hS
    have HAT := Lib.hid ha
    have HNE := Lib.hid n3
    have hw0 : 0 < wd.size := by
      have : wd.size = wd.data.toList.length := rfl
      rcases Nat.eq_zero_or_pos wd.size with h0 | h0
      · rw [this] at h0
        exact absurd (List.eq_nil_of_length_eq_zero h0) n3
      · exact h0
    clear hS ha n3
    have HBAD : Hid (¬ (wd.size ≤ 6 ∧ n ≤ most ∧ Lib.itoa n = wd.data.toList ∧ wd.data.toList.head? ≠ some 45) → R = (0, { r1 with bad := true })) := by
      intro hno
      rw [HR.out]
      have : okW wd most = none := by unfold okW; rw [HAT.out]; dsimp only; rw [if_neg hno]
      rw [this]
    have HOK : Hid ((wd.size ≤ 6 ∧ n ≤ most ∧ Lib.itoa n = wd.data.toList ∧ wd.data.toList.head? ≠ some 45) → R = (n.toNat, r1)) := by
      intro hyes
      rw [HR.out]
      have : okW wd most = some n.toNat := by unfold okW; rw [HAT.out]; dsimp only; rw [if_pos hyes]
      rw [this]
    have hS2 : S = wd ↔ Lib.itoa n = wd.data.toList := by
      rw [← HSS.out]
      constructor
      · rintro rfl; rfl
      · intro h; rw [h]
    by_cases k6 : wd.size ≤ 6
    · have k6b : decide (6 < wd.size) = false := by simp; omega
      have k6c : decide ((6 : Int) < (wd.size : Int)) = false := by simp; omega
      by_cases km : n ≤ most
      · have kmb : decide ((most : Int) < n) = false := by simp; omega
        by_cases ks : S = wd
        · have HSE := Lib.hid (hS2.1 ks)
          have HK6 := Lib.hid k6
          have HKM := Lib.hid km
          subst ks
          clear hS2 k6 km
          by_cases k45 : S.data.toList.head? = some 45
          · have HB := Lib.hid (HBAD.out (fun hh => hh.2.2.2 k45))
            have hc : ((S[0].toNat : Int) == 45) = true := by
              rw [head_byte S hw0] at k45
              injection k45 with k45
              rw [k45]; rfl
            clear k45
            go_wp2_with (go_at_call 46; refine (HIt.out _ hP2.out).mono ?_; rintro e w3 ⟨rfl, f3⟩; have q3 := q2.fr f3 id; have z3 := q3.fz 2; have d3 := q3.c2)
            go_ret
            rw [HB.out]
            exact ⟨rfl, q3.s2 true, (f02.trans (f3.mono (fun _ _ h => h.elim))).set1 _ _⟩
          · have HB := Lib.hid (HOK.out ⟨HK6.out, HKM.out, HSE.out, k45⟩)
            have hc : ((S[0].toNat : Int) == 45) = false := by
              rw [head_byte S hw0] at k45
              simp only [beq_eq_false_iff_ne, ne_eq]
              intro h45
              exact k45 (congrArg some (UInt8.toNat_inj.1 (show S[0].toNat = (45 : UInt8).toNat by have : (45 : UInt8).toNat = 45 := rfl; omega)))
            have hn0 : Hid (((n.toNat : Nat) : Int) = n) := by
              refine Int.toNat_of_nonneg (Decidable.byContradiction fun hneg => k45 ?_)
              rw [← HSE.out, Lib.itoa, if_pos (by omega)]; rfl
            clear k45
            go_wp2_with (go_at_call 46; refine (HIt.out _ hP2.out).mono ?_; rintro e w3 ⟨rfl, f3⟩; have q3 := q2.fr f3 id; have z3 := q3.fz 2; have d3 := q3.c2)
            go_ret
            rw [HB.out]
            exact ⟨by rw [hn0.out]; rfl, q3, f02.trans (f3.mono (fun _ _ h => h.elim))⟩
        · have HB := Lib.hid (HBAD.out (fun hh => ks (hS2.2 hh.2.2.1)))
          have kb1 : (S.toList == wd.toList) = false := neq_strs ks
          clear hS2 ks
          go_wp2_with (go_at_call 46; refine (HIt.out _ hP2.out).mono ?_; rintro e w3 ⟨rfl, f3⟩; have q3 := q2.fr f3 id; have z3 := q3.fz 2; have d3 := q3.c2)
          go_ret
          rw [HB.out]
          exact ⟨rfl, q3.s2 true, (f02.trans (f3.mono (fun _ _ h => h.elim))).set1 _ _⟩
      · have HB := Lib.hid (HBAD.out (fun hh => km hh.2.1))
        have kmb : decide ((most : Int) < n) = true := by simp; omega
        clear hS2 km
        go_wp2
        go_ret
        rw [HB.out]
        exact ⟨rfl, q2.s2 true, f02.set1 _ _⟩
    · have HB := Lib.hid (HBAD.out (fun hh => k6 hh.1))
      have k6b : decide (6 < wd.size) = true := by simp; omega
      have k6c : decide ((6 : Int) < (wd.size : Int)) = true := by simp; omega
      clear hS2 k6
      go_wp2
      go_ret
      rw [HB.out]
      exact ⟨rfl, q2.s2 true, f02.set1 _ _⟩
end Go.Proofs.YtchgjjegcoiepaaDoor
