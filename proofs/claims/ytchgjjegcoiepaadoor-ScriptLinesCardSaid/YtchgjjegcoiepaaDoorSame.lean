import Derived.Test.YtchgjjegcoiepaaDoorGreat
namespace Go.Proofs.YtchgjjegcoiepaaDoor
open Go.RowKit

deriving instance DecidableEq for Cmd
def sameF (a b : List Cmd) : Bool := decide (a = b)
theorem same_of {a b : List Cmd} (hl : a.length = b.length) (h : ∀ j, (h : j < a.length) → (h' : j < b.length) → a[j] = b[j]) : a = b := List.ext_getElem hl h

set_option maxHeartbeats 4000000 in
theorem Same_any (a b : List Cmd) (va vb : Value) (w : World) (ha : SlCa w va a) (hb : SlCa w vb b) (hl1 : a.length ≤ 100000) (hl2 : ∀ c ∈ a, c.A.length ≤ 100000) :
    Calls Tryd.prog 15 #[va, vb] w fun e w' => e = .returned (.bool (sameF a b)) ∧ Fr No w w' := by
  obtain ⟨A, cap, rfl, _⟩ := id ha
  obtain ⟨B, cap', rfl, _⟩ := id hb
  have HR : Hid (sameF a b = decide (a = b)) := rfl
  obtain ⟨R, hR⟩ : ∃ R, sameF a b = R := ⟨_, rfl⟩
  rw [hR] at HR ⊢
  clear hR
  by_cases hl : a.length = b.length
  · have HL := Lib.hid hl
    have HBL : Hid (a.length = b.length) := hl
    obtain ⟨n, hn⟩ : ∃ n, b.length = n := ⟨_, rfl⟩
    have hbl : ((a.length : Int) != (b.length : Int)) = false := by simp [hl]
    have HN := Lib.hid hn
    clear hn
    go_enter Tryd.func15, Tryd.ntmps15
    clear hl
    go_wp2
    go_loopg [5, 6] a.length (fun gk u5 u6 wx => ∃ i : Nat, u5 = .int .i64 i ∧ i ≤ a.length ∧ (∀ j, (h : j < a.length) → (h' : j < b.length) → j < i → a[j] = b[j]) ∧ Fr No w wx ∧ gk = a.length - i)
    case atStart => exact ⟨0, rfl, by omega, by omega, (by first | exact Fr.refl w | exact (Fr.refl w).drewN _), rfl⟩
    case round =>
      obtain ⟨i, rfl, hi, hno, hf, rfl⟩ := hrel
      obtain ⟨wo, rfl⟩ : ∃ wo : World, wo = wr := ⟨_, rfl⟩
      have HN := Lib.hid hno; clear hno
      by_cases hlt : i < a.length
      · have hltb : i < b.length := by have := HL.out; omega
        obtain ⟨g, off, rfl, ht, hc⟩ := ha.parts (by omega)
        obtain ⟨g', off', rfl, ht', hc'⟩ := hb.parts (by omega)
        obtain ⟨c1, A2, cap2, c2, c3⟩ := hc i hlt
        obtain ⟨d1, B2, cap3, d2, d3⟩ := hc' i hltb
        have r1 : wo.cell? ⟨g, off + i * 2, none⟩ = _ := (hf.cell (p := ⟨g, off + i * 2, none⟩) ht.lt id).trans c1
        have r2 : wo.cell? ⟨g, off + i * 2 + 1, none⟩ = _ := (hf.cell (p := ⟨g, off + i * 2 + 1, none⟩) ht.lt id).trans c2
        have s1 : wo.cell? ⟨g', off' + i * 2, none⟩ = _ := (hf.cell (p := ⟨g', off' + i * 2, none⟩) ht'.lt id).trans d1
        have s2 : wo.cell? ⟨g', off' + i * 2 + 1, none⟩ = _ := (hf.cell (p := ⟨g', off' + i * 2 + 1, none⟩) ht'.lt id).trans d2
        have hl2i := hl2 a[i] (List.getElem_mem hlt)
        clear hc hc' c1 c2 d1 d2
        have HGA : Hid (∀ (L M : Nat) (xs ys : List Int), a[i].L = L → b[i].L = M → a[i].A = xs → b[i].A = ys → ¬ (L = M ∧ xs = ys) → R = false) := by
          intro L M xs ys e1 e2 e3 e4 hne
          rw [HR.out, decide_eq_false_iff_not]
          intro hab
          subst hab
          exact hne ⟨e1.symm.trans e2, e3.symm.trans e4⟩
        have HOK : Hid (∀ (L : Nat) (xs : List Int), a[i].L = L → b[i].L = L → a[i].A = xs → b[i].A = xs → ∀ j, (h : j < a.length) → (h' : j < b.length) → j < i + 1 → a[j] = b[j]) := by
          intro L xs e1 e2 e3 e4 j h h' hj
          by_cases hji : j = i
          · subst hji
            cases hx : a[j]; cases hy : b[j]
            rw [hx] at e1 e3
            rw [hy] at e2 e4
            subst e1; subst e3; cases e2; cases e4; rfl
          · exact HN.out j h h' (by omega)
        obtain ⟨L, hL⟩ : ∃ L, a[i].L = L := ⟨_, rfl⟩
        obtain ⟨M, hM⟩ : ∃ L, b[i].L = L := ⟨_, rfl⟩
        obtain ⟨xs, hxs⟩ : ∃ xs, a[i].A = xs := ⟨_, rfl⟩
        obtain ⟨ys, hys⟩ : ∃ xs, b[i].A = xs := ⟨_, rfl⟩
        have HBAD : Hid (¬ (L = M ∧ xs = ys) → R = false) := HGA.out L M xs ys hL hM hxs hys
        have HGOOD : Hid (L = M → xs = ys → ∀ j, (h : j < a.length) → (h' : j < b.length) → j < i + 1 → a[j] = b[j]) := fun e1 e2 => HOK.out L xs hL (hM.trans e1.symm) hxs (hys.trans e2.symm)
        rw [hL] at r1
        rw [hM] at s1
        rw [hxs] at r2 c3 hl2i
        rw [hys] at s2 d3
        clear hL hM hxs hys HGA HOK
        by_cases hLM : L = M
        · subst hLM
          by_cases hlen : xs.length = ys.length
          · have HLEN := Lib.hid hlen
            have hlb : ((xs.length : Int) != (ys.length : Int)) = false := by simp [hlen]
            have hLL : ((L : Int) != (L : Int)) = false := by simp
            have HL2 := Lib.hid hl2i
            clear hlen
            go_wp2
            go_quiet (fail)
            go_wp2
            go_loopg [6] xs.length (fun gk u6 wx => ∃ k : Nat, u6 = .int .i64 k ∧ k ≤ xs.length ∧ (∀ j, (h : j < xs.length) → (h' : j < ys.length) → j < k → xs[j] = ys[j]) ∧ Fr No wo wx ∧ gk = xs.length - k)
            case atStart => exact ⟨0, rfl, by omega, by omega, (by first | exact Fr.refl wo | exact (Fr.refl wo).drewN _), rfl⟩
            case round =>
              obtain ⟨k, rfl, hk, hno, hf2, rfl⟩ := hrel
              have HNO := Lib.hid hno; clear hno
              have p1 : wr.cell? ⟨g, off + i * 2, none⟩ = _ := (hf2.cell (p := ⟨g, off + i * 2, none⟩) (by have := ht.lt; have := hf.size; show g < _; omega) id).trans r1
              have p2 : wr.cell? ⟨g, off + i * 2 + 1, none⟩ = _ := (hf2.cell (p := ⟨g, off + i * 2 + 1, none⟩) (by have := ht.lt; have := hf.size; show g < _; omega) id).trans r2
              have p3 : wr.cell? ⟨g', off' + i * 2, none⟩ = _ := (hf2.cell (p := ⟨g', off' + i * 2, none⟩) (by have := ht'.lt; have := hf.size; show g' < _; omega) id).trans s1
              have p4 : wr.cell? ⟨g', off' + i * 2 + 1, none⟩ = _ := (hf2.cell (p := ⟨g', off' + i * 2 + 1, none⟩) (by have := ht'.lt; have := hf.size; show g' < _; omega) id).trans s2
              clear r1 r2 s1 s2
              by_cases hkl : k < xs.length
              · have hkl' : k < ys.length := by have := HLEN.out; omega
                obtain ⟨g2, off2, rfl, ht2, hc2⟩ := c3.parts (by omega)
                obtain ⟨g3, off3, rfl, ht3, hc3⟩ := d3.parts (by omega)
                have rc : wr.cell? ⟨g2, off2 + k, none⟩ = _ := ((hf.trans hf2).cell (p := ⟨g2, off2 + k, none⟩) ht2.lt id).trans (hc2 k hkl)
                have rd : wr.cell? ⟨g3, off3 + k, none⟩ = _ := ((hf.trans hf2).cell (p := ⟨g3, off3 + k, none⟩) ht3.lt id).trans (hc3 k hkl')
                clear hc2 hc3
                have HX : Hid (xs[k] ≠ ys[k] → R = false) := fun hne => HBAD.out (fun h => hne (by simp [h.2]))
                have HO : Hid (xs[k] = ys[k] → ∀ j, (h : j < xs.length) → (h' : j < ys.length) → j < k + 1 → xs[j] = ys[j]) := by
                  intro he j h h' hj
                  by_cases hjk : j = k
                  · subst hjk; exact he
                  · exact HNO.out j h h' (by omega)
                obtain ⟨x, hx⟩ : ∃ x, xs[k] = x := ⟨_, rfl⟩
                obtain ⟨y, hy⟩ : ∃ x, ys[k] = x := ⟨_, rfl⟩
                rw [hx] at rc HX HO
                rw [hy] at rd HX HO
                clear hx hy
                by_cases hxy : x = y
                · have HO2 := Lib.hid (HO.out hxy)
                  have hxb : (x != y) = false := by simp [hxy]
                  clear hxy
                  go_wp2
                  go_quiet (fail)
                  go_wp2
                  go_roundg (xs.length - (k + 1))
                  case measure => omega
                  case rel => exact ⟨k + 1, by go_num, by omega, HO2.out, (by first | exact hf2 | exact hf2.drewN _), rfl⟩
                · have HF := Lib.hid (HX.out hxy)
                  have hxb : (x != y) = true := by simp [hxy]
                  clear hxy
                  go_wp2
                  go_quiet (fail)
                  go_wp2
                  go_ret
                  exact ⟨by rw [HF.out]; rfl, by first | exact hf.trans hf2 | exact (hf.trans hf2).drewN _⟩
              · obtain rfl : k = xs.length := by omega
                have HXY : Hid (xs = ys) := List.ext_getElem HLEN.out (fun j h h' => HNO.out j h h' h)
                go_wp2
                go_roundg (a.length - (i + 1))
                case measure => omega
                case rel => exact ⟨i + 1, by go_num, by omega, HGOOD.out (by trivial) HXY.out, hf.trans hf2, rfl⟩
          · have HF := Lib.hid (HBAD.out (fun h => hlen (by rw [h.2])))
            have hlb : ((xs.length : Int) != (ys.length : Int)) = true := by simp; omega
            have hLL : ((L : Int) != (L : Int)) = false := by simp
            clear hlen
            go_wp2
            go_quiet (fail)
            go_wp2
            go_ret
            exact ⟨by rw [HF.out]; rfl, by first | exact hf | exact hf.drewN _⟩
        · have HF := Lib.hid (HBAD.out (fun h => hLM h.1))
          have hLL : ((L : Int) != (M : Int)) = true := by simp; omega
          clear hLM
          go_wp2
          go_quiet (fail)
          go_wp2
          go_ret
          exact ⟨by rw [HF.out]; rfl, by first | exact hf | exact hf.drewN _⟩
      · have HB : Hid (R = true) := by
          unfold Hid; rw [HR.out, decide_eq_true_iff]
          exact same_of HL.out (fun j h h' => HN.out j h h' (by omega))
        go_wp2
        go_ret
        exact ⟨by rw [HB.out]; rfl, hf⟩
  · have hbl : ((a.length : Int) != (b.length : Int)) = true := by simp; omega
    have HB : Hid (R = false) := by
      unfold Hid; rw [HR.out, decide_eq_false_iff_not]
      intro hh; exact hl (by rw [hh])
    clear hl
    go_enter Tryd.func15, Tryd.ntmps15
    go_wp2
    go_ret
    exact ⟨by rw [HB.out]; rfl, by first | exact Fr.refl w | exact (Fr.refl w).drewN _⟩
end Go.Proofs.YtchgjjegcoiepaaDoor
