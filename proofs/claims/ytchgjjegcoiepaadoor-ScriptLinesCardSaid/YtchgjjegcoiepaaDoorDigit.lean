import Derived.Test.YtchgjjegcoiepaaDoorRead
namespace Go.Proofs.YtchgjjegcoiepaaDoor
open Go.RowKit

/-- the i-th digit behind the point. -/
def digN (D : Dn) (i : Int) : Nat := if 0 ≤ D.pt + i - 1 then D.ds.getD (D.pt + i - 1).toNat 0 else 0

theorem digit_any (D : Dn) (i : Int) (base : Nat) (sv : Value) (w : World) (hpt : -4611686018427387904 ≤ D.pt ∧ D.pt ≤ 4611686018427387904) (hi : -100 ≤ i ∧ i ≤ 100) (o : Ow w base 5 sv (u8s D.ds)) (hl : D.ds.length ≤ 140737488351232) (hd : ∀ x ∈ D.ds, x ≤ 9) :
    Calls Tryd.prog 122 #[.agg #[.bool D.below, sv, .int .i64 D.pt], .int .i64 i] w fun e w' => e = .returned (.int .u64 (digN D i)) ∧ Fr No w w' := by
  obtain ⟨bl, ds, pt⟩ := D
  dsimp only at hpt hl hd o ⊢
  obtain ⟨A, cap, rfl, hcap⟩ := o.form
  rw [u8s_length] at o hcap ⊢
  obtain ⟨v, hv⟩ : ∃ v, digN ⟨bl, ds, pt⟩ i = v := ⟨_, rfl⟩
  rw [hv]
  unfold digN at hv
  dsimp only at hv
  by_cases h0 : 0 ≤ pt + i - 1
  · by_cases h1 : pt + i - 1 < ds.length
    · obtain ⟨k, hk⟩ : ∃ k : Nat, pt + i - 1 = k := ⟨(pt + i - 1).toNat, by omega⟩
      rw [if_pos h0, hk, Int.toNat_natCast] at hv
      have hkl : k < ds.length := by omega
      obtain ⟨g, cap', hA, _, _⟩ := o.form2 (by rw [u8s_length]; omega)
      injection hA with hA1 hA2 hA3
      clear hA2 hA3
      subst hA1
      have hc : w.cell? ⟨g, k, none⟩ = some (.int .u8 v) := by
        rw [o.cell k (by rw [u8s_length]; omega), ← hv]
        simp [u8s, List.getD, List.getElem?_eq_getElem hkl]
      have hg : g < w.heap.size := (o.lt g rfl).2
      have hv9 : v ≤ 9 := by
        rw [← hv, List.getD, List.getElem?_eq_getElem hkl]; exact hd _ (List.getElem_mem hkl)
      have hkk : (pt + i - 1).toNat = k := by omega
      clear hv hd
      have H := Lib.hid hk; clear hk
      go_enter Tryd.func122, Tryd.ntmps122
      go_wp2
      go_ret
      exact ⟨rfl, (Fr.refl w).alloc _⟩
    · have hv0 : v = 0 := by rw [← hv, if_pos h0, List.getD, List.getElem?_eq_none (by omega)]; rfl
      clear hv hd
      have H := Lib.hid hv0; clear hv0
      go_enter Tryd.func122, Tryd.ntmps122
      go_wp2
      go_ret
      exact ⟨by rw [H.out]; rfl, (Fr.refl w).alloc _⟩
  · have hv0 : v = 0 := by rw [← hv, if_neg h0]
    clear hv hd
    have H := Lib.hid hv0; clear hv0
    go_enter Tryd.func122, Tryd.ntmps122
    go_wp2
    go_ret
    exact ⟨by rw [H.out]; rfl, (Fr.refl w).alloc _⟩
end Go.Proofs.YtchgjjegcoiepaaDoor
