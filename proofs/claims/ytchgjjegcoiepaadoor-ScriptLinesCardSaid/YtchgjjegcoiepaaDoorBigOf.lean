import Derived.Test.YtchgjjegcoiepaaDoorPrint
namespace Go.Proofs.YtchgjjegcoiepaaDoor
open Go.RowKit

/-- a slice of ints, read. -/
def SlD (w : World) (av : Value) (xs : List Int) : Prop :=
  ∃ A cap, av = .slice A xs.length cap ∧ xs.length ≤ cap ∧ (0 < xs.length → ∃ g off, A = some ⟨g, off, none⟩ ∧ Ty w g 3 ∧ ∀ j (h : j < xs.length), w.cell? ⟨g, off + j, none⟩ = some (.int .i64 xs[j]))
theorem SlD.fr {P : Nat → Prop} {w w' : World} {av : Value} {xs : List Int} (h : SlD w av xs) (f : Fr P w w') (hP : ∀ k, Ty w k 3 → ¬ P k) : SlD w' av xs := by
  obtain ⟨A, cap, rfl, hc0, h⟩ := h
  refine ⟨A, cap, rfl, hc0, fun hl => ?_⟩
  obtain ⟨g, off, rfl, ht, hc⟩ := h hl
  exact ⟨g, off, rfl, ht.fr f (hP g ht), fun j hj => (f.cell (p := ⟨g, off + j, none⟩) ht.lt (hP g ht)).trans (hc j hj)⟩
theorem SlD.nil (w : World) : SlD w (.slice none 0 0) [] := ⟨none, 0, rfl, by simp, fun h => by simp at h⟩
theorem SlD.parts {w : World} {A : Option Addr} {n cap : Nat} {xs : List Int} (h : SlD w (.slice A n cap) xs) (h0 : 0 < xs.length) : ∃ g off, A = some ⟨g, off, none⟩ ∧ Ty w g 3 ∧ ∀ j (h : j < xs.length), w.cell? ⟨g, off + j, none⟩ = some (.int .i64 xs[j]) := by
  obtain ⟨A', cap', e, _, hh⟩ := h
  injection e with e1 _ _
  subst e1
  exact hh h0
theorem SlD.of_own {w : World} {base : Nat} {sv : Value} {xs : List Int} (h : Ow w base 3 sv (i64s xs)) : SlD w sv xs := by
  obtain ⟨A, cap, rfl, hcap⟩ := h.form
  refine ⟨A, cap, by rw [i64s_length], by rw [i64s_length] at hcap; exact hcap, fun hl => ?_⟩
  obtain ⟨g, cap', e, _, _⟩ := h.form2 (by rw [i64s_length]; exact hl)
  injection e with e1 e2 e3
  subst e1
  have hty : Ty w g 3 := by
    rcases h.2 with ⟨e, _⟩ | ⟨g', cap'', cur, e, _, hh, _⟩
    · cases e
    · injection e with e _ _; injection e with e; injection e with e _ _; subst e; exact ⟨_, _, hh⟩
  refine ⟨g, 0, rfl, hty, fun j hj => ?_⟩
  rw [Nat.zero_add, h.cell j (by rw [i64s_length]; exact hj)]
  simp [i64s]

/-- without noughts ahead. -/
def trimD (xs : List Int) : List Int := (xs.reverse.dropWhile (· == 0)).reverse
theorem trimD_take (xs : List Int) : ∀ (k : Nat) (_ : k ≤ xs.length), (∀ j (h : j < xs.length), k ≤ j → xs[j] = 0) → (∀ h : 0 < k, xs[k - 1]'(by omega) ≠ 0) → trimD xs = xs.take k := by
  intro k hk hz hn
  have e : xs = xs.take k ++ List.replicate (xs.length - k) 0 := by
    apply List.ext_getElem
    · simp; omega
    · intro j h1 h2
      by_cases hj : j < k
      · rw [List.getElem_append_left (by simp; omega), List.getElem_take]
      · rw [List.getElem_append_right (by simp; omega), List.getElem_replicate]
        exact hz j h1 (by omega)
  have e2 : trimD xs = trimD (xs.take k ++ List.replicate (xs.length - k) 0) := by rw [← e]
  rw [e2]
  unfold trimD
  rw [List.reverse_append, List.reverse_replicate]
  have d1 : ∀ (n : Nat) (ys : List Int), (List.replicate n (0 : Int) ++ ys).dropWhile (· == 0) = ys.dropWhile (· == 0) := by
    intro n ys
    induction n with
    | zero => rfl
    | succ n ih => rw [List.replicate_succ, List.cons_append, List.dropWhile_cons_of_pos (by rfl)]; exact ih
  rw [d1]
  by_cases h0 : k = 0
  · subst h0; simp
  · have hlast : (xs.take k).reverse = xs[k - 1] :: (xs.take (k - 1)).reverse := by
      have : xs.take k = xs.take (k - 1) ++ [xs[k - 1]] := by
        have := List.take_succ_eq_append_getElem (l := xs) (i := k - 1) (by omega)
        rwa [show k - 1 + 1 = k from by omega] at this
      rw [this]; simp
    rw [hlast, List.dropWhile_cons_of_neg, ← hlast, List.reverse_reverse]
    simpa using hn (by omega)

def TrimPost (w : World) (xs : List Int) (e : Ending) (w' : World) : Prop := ∃ v, e = .returned v ∧ SlD w' v (trimD xs) ∧ Fr No w w'

set_option maxHeartbeats 2000000 in
theorem trim_any (v : Value) (xs : List Int) (w : World) (h : SlD w v xs) (hl : xs.length ≤ 100000) : Calls Tryd.prog 92 #[v] w (TrimPost w xs) := by
  obtain ⟨A, cap, rfl, hcap, _⟩ := id h
  obtain ⟨n, hn⟩ : ∃ n, xs.length = n := ⟨_, rfl⟩
  rw [hn] at hcap hl
  have HN := Lib.hid hn
  have h' : SlD w (.slice A n cap) xs := by rw [← hn]; exact h
  rw [hn]
  clear hn h
  go_enter Tryd.func92, Tryd.ntmps92
  go_wp2
  go_loopg [0] n (fun gk u0 wx => ∃ k : Nat, u0 = .slice A k cap ∧ k ≤ n ∧ (∀ j (h : j < xs.length), k ≤ j → xs[j] = 0) ∧ Fr No w wx ∧ gk = k)
  case atStart => exact ⟨n, rfl, Nat.le_refl _, fun j h1 h2 => by have := HN.out; omega, Fr.refl w, rfl⟩
  case round =>
    obtain ⟨k, rfl, hk, hz, hf, hgk⟩ := hrel
    have HG := Lib.hid hgk
    have HZ := Lib.hid hz
    clear hz hgk
    by_cases h0 : 0 < k
    · obtain ⟨g, off, rfl, ht, hc⟩ := h'.parts (by have := HN.out; omega)
      have hkx : k - 1 < xs.length := by have := HN.out; omega
      have r1 : wr.cell? ⟨g, off + (k - 1), none⟩ = _ := (hf.cell (p := ⟨g, off + (k - 1), none⟩) ht.lt id).trans (hc (k - 1) hkx)
      obtain ⟨x, hx⟩ : ∃ x, xs[k - 1] = x := ⟨_, rfl⟩
      rw [hx] at r1
      have HX := Lib.hid hx
      clear hx hc
      obtain ⟨m, rfl⟩ : ∃ m, k = m + 1 := ⟨k - 1, by omega⟩
      rw [Nat.add_sub_cancel] at r1
      by_cases hx0 : x = 0
      · have hxb : (x == 0) = true := by simp [hx0]
        have HX0 := Lib.hid hx0
        clear hx0
        go_wp2
        go_roundg m
        case measure => have := HG.out; omega
        case rel => exact ⟨m, by go_num, by omega, fun j h1 h2 => by
          by_cases hj : j = m
          · subst hj; have := HX.out; simp only [Nat.add_sub_cancel] at this; rw [this]; exact HX0.out
          · exact HZ.out j h1 (by omega), hf, rfl⟩
      · have hxb : (x == 0) = false := by simp [hx0]
        have HX0 := Lib.hid hx0
        clear hx0
        have HT := Lib.hid (trimD_take xs (m + 1) (by have := HN.out; omega) HZ.out (fun _ => by rw [HX.out]; exact HX0.out))
        go_wp2
        go_ret
        refine ⟨_, rfl, ?_, hf⟩
        rw [HT.out]
        have hm : m + 1 ≤ xs.length := by have := HN.out; omega
        have hlen : (xs.take (m + 1)).length = m + 1 := by rw [List.length_take]; omega
        refine ⟨_, cap, by rw [hlen]; rfl, by rw [hlen]; omega, fun _ => ⟨g, off, rfl, ht.fr hf id, fun j hj => ?_⟩⟩
        rw [hlen] at hj
        obtain ⟨g', off', e', _, hc'⟩ := h'.parts (by omega)
        injection e' with e'
        injection e' with e1 e2 _
        subst e1; subst e2
        rw [List.getElem_take]
        exact (hf.cell (p := ⟨g, off + j, none⟩) ht.lt id).trans (hc' j (by omega))
    · obtain rfl : k = 0 := by omega
      have HT := Lib.hid (trimD_take xs 0 (by omega) HZ.out (fun h => by omega))
      go_wp2
      go_ret
      refine ⟨_, rfl, ?_, hf⟩
      rw [HT.out]
      exact ⟨A, cap, rfl, by simp, fun h => by simp at h⟩

def digs : Nat → Nat → List Int
  | 0, _ => []
  | i + 1, n => ((n % 65536 : Nat) : Int) :: digs i (n / 65536)
def bigD (n : Nat) : List Int := trimD (digs 4 n)
theorem info3 : (Tryd.prog.info? 3).map (fun i => (i.zero, i.size, i.bytes)) = some (some (.int .i64 0), 1, 8) := by kernel_rfl
def OfBig (w : World) (a : Int) (e : Ending) (w' : World) : Prop := ∃ v, e = .returned (.agg #[.bool (decide (a < 0)), v]) ∧ SlD w' v (bigD a.natAbs) ∧ Fr No w w'

theorem res69 {W : World} {b : Nat} {N : Bool} {A : Option Addr} {m cap : Nat} (h : W.heap[b]? = some (.cells #[.bool N, .slice A m cap] 120 (0, 0))) (a : Array Value) (h2 : a[2]?.getD undef = .pointer (some ⟨b, 0, none⟩)) :
    (results Tryd.f69 a).run Tryd.prog W = .ok (.agg #[.bool N, .slice A m cap]) W := by
  have q0 := cell_of_block h 0
  have q1 := cell_of_block h 1
  simp only [List.getElem?_toArray, List.getElem?_cons_zero, List.getElem?_cons_succ] at q0 q1
  simp [results, Tryd.results69, go_sem, h2, q0, q1]

set_option maxRecDepth 200000 in
set_option maxHeartbeats 2000000 in
theorem BigOf_any (a : Int) (w : World) (h1 : -9223372036854775808 ≤ a) (h2 : a ≤ 9223372036854775807) : Calls Tryd.prog 69 #[.int .i64 a] w (OfBig w a) := by
  obtain ⟨D, hD⟩ : ∃ D, digs 4 a.natAbs = D := ⟨_, rfl⟩
  obtain ⟨N, hN⟩ : ∃ N, decide (a < 0) = N := ⟨_, rfl⟩
  have HD := Lib.hid hD
  have HN := Lib.hid hN
  have H1 := Lib.hid h1
  have H2 := Lib.hid h2
  clear hD h1 h2
  go_enter Tryd.func69, Tryd.ntmps69
  go_wp2
  generalize hW : World.alloc w _ = W0
  obtain ⟨a0, a1, hF⟩ := al1 hW
  clear hW
  go_loopg [0, 4, 5, 6] 4 (fun gk u0 u4 u5 u6 wx => ∃ (i : Nat) (y : Int) (acc : List Int), u0 = .int .i64 y ∧ u5 = .int .i64 i ∧ i ≤ 4 ∧ acc.length = i ∧ Ow wx (w.heap.size + 1) 3 u4 (i64s acc) ∧ (-9223372036854775808 ≤ y ∧ y ≤ 9223372036854775807) ∧ acc ++ digs (4 - i) y.natAbs = D ∧ Fr No W0 wx ∧ gk = 4 - i)
  case atStart => exact ⟨0, a, [], rfl, rfl, by omega, rfl, Ow.nil _ _ _, ⟨H1.out, H2.out⟩, HD.out, Fr.refl W0, rfl⟩
  case round =>
    obtain ⟨i, y, acc, rfl, rfl, hi, hal, ho, hy, hacc, hf, rfl⟩ := hrel
    have HYB := Lib.hid hy
    have HACC := Lib.hid hacc
    clear hy hacc
    by_cases hlt : i < 4
    · have hy := HYB.out
      obtain ⟨x, hx⟩ : ∃ x, y.tmod 65536 = x := ⟨_, rfl⟩
      obtain ⟨z, hz⟩ : ∃ z, y.tdiv 65536 = z := ⟨_, rfl⟩
      have hzN : z.natAbs = y.natAbs / 65536 := by rw [← hz, Int.natAbs_tdiv]; rfl
      have hzb : -9223372036854775808 ≤ z ∧ z ≤ 9223372036854775807 := by omega
      have hxN : x.natAbs = y.natAbs % 65536 := by rw [← hx, Int.natAbs_tmod]; rfl
      have w1 : IntKind.i64.wrap x = x := by rw [IntKind.wrap_i64]; omega
      have w2 : IntKind.i64.wrap z = z := by rw [IntKind.wrap_i64]; omega
      have w3 : IntKind.i64.wrap (-x) = -x := by rw [IntKind.wrap_i64]; omega
      have HZB := Lib.hid hzb
      have HZN := Lib.hid hzN
      have HXN := Lib.hid hxN
      clear hy hzb hzN hxN
      have hsx : w.heap.size + 1 ≤ wr.heap.size := by have := hf.size; omega
      have HDG : Hid (∀ (v : Int), v = ((y.natAbs % 65536 : Nat) : Int) → (acc ++ [v]) ++ digs (4 - (i + 1)) z.natAbs = D) := by
        intro v hv
        rw [← HACC.out, show 4 - i = (4 - (i + 1)) + 1 from by omega, digs, HZN.out, hv, List.append_assoc]
        rfl
      by_cases hx0 : x < 0
      · have hxb : decide (x < 0) = true := by simp [hx0]
        go_wp2_with (at_builtin; refine wpList_app1 rfl _ _ 118 rfl (w.heap.size + 1) 3 (.int .i64 0) 8 Tryd.underlying118 info3 rfl _ i (i64s acc) (by rw [i64s_length]; exact hal) _ rfl (by exact ho) rfl rfl (by omega) (by omega) (by omega) ?_; intro A' cap' w3 o' f')
        go_roundg (4 - (i + 1))
        case measure => omega
        case rel => exact ⟨i + 1, z, acc ++ [-x], rfl, by go_num, by omega, by rw [List.length_append, hal]; rfl, by rw [i64s_snoc]; exact o', HZB.out, HDG.out _ (by have := HXN.out; omega), hf.then f' (fun k h1 h2 => by omega), rfl⟩
      · have hxb : decide (x < 0) = false := by simp [hx0]
        go_wp2_with (at_builtin; refine wpList_app1 rfl _ _ 118 rfl (w.heap.size + 1) 3 (.int .i64 0) 8 Tryd.underlying118 info3 rfl _ i (i64s acc) (by rw [i64s_length]; exact hal) _ rfl (by exact ho) rfl rfl (by omega) (by omega) (by omega) ?_; intro A' cap' w3 o' f')
        go_roundg (4 - (i + 1))
        case measure => omega
        case rel => exact ⟨i + 1, z, acc ++ [x], rfl, by go_num, by omega, by rw [List.length_append, hal]; rfl, by rw [i64s_snoc]; exact o', HZB.out, HDG.out _ (by have := HXN.out; omega), hf.then f' (fun k h1 h2 => by omega), rfl⟩
    · obtain rfl : i = 4 := by omega
      have hDD : Hid (acc = D) := by
        have := HACC.out
        unfold Hid
        simpa [digs] using this
      have hsl := SlD.of_own ho
      obtain ⟨A, cap, rfl, _⟩ := id hsl
      have HTr := Lib.hid (trim_any _ acc wr hsl (by omega))
      clear hal ho hsl
      obtain ⟨n, hn⟩ : ∃ n, acc.length = n := ⟨_, rfl⟩
      rw [hn] at HTr ⊢
      clear hn
      have b1 : wr.heap[w.heap.size]? = _ := (hf.block w.heap.size (by omega) id).trans a1
      go_wp2_with (go_at_call 92; refine HTr.out.mono ?_; rintro e w1 ⟨v, rfl, hv, f1⟩; obtain ⟨A1, cap1, rfl, hx1⟩ := id hv; obtain ⟨m1, hm1⟩ : ∃ m, (trimD acc).length = m := ⟨_, rfl⟩; rw [hm1]; have HM := Lib.hid hm1; clear hm1 hx1; have b2 : w1.heap[w.heap.size]? = some (.cells #[.bool false, .slice none 0 0] 120 (0, 0)) := (f1.block w.heap.size (lt_of_block b1) id).trans b1; have q0 := cell_of_block b2 0; have q1 := cell_of_block b2 1; have z0 := free_of_block b2 0; have z1 := free_of_block b2 1; simp only [List.getElem?_toArray, List.getElem?_cons_zero, List.getElem?_cons_succ] at q0 q1)
      have b3 : ((w1.setCell ⟨w.heap.size, 0, none⟩ (.bool N)).setCell ⟨w.heap.size, 1, none⟩ (.slice A1 m1 cap1)).heap[w.heap.size]? = some (.cells #[.bool N, .slice A1 m1 cap1] 120 (0, 0)) := by
        rw [setCell_block (setCell_block b2 0 _) 1]; rfl
      refine bodyPost_ret (res69 b3 _ rfl) rfl ?_
      refine ⟨_, by rw [HN.out], ?_, ((((hF _).trans hf).trans f1).setNew (by omega) _ _).setNew (by omega) _ _⟩
      have hset : Fr (One w.heap.size) w1 ((w1.setCell ⟨w.heap.size, 0, none⟩ (.bool N)).setCell ⟨w.heap.size, 1, none⟩ (.slice A1 m1 cap1)) := ((Fr.refl w1).set1 _ _).set1 _ _
      have hb : bigD a.natAbs = trimD acc := by unfold bigD; rw [HD.out, hDD.out]
      rw [hb]
      rw [HM.out] at hv
      exact hv.fr hset (fun k hk e => by
        have e : k = w.heap.size := e
        subst e
        exact absurd (hk.ne ⟨_, _, b2⟩) (by decide))
end Go.Proofs.YtchgjjegcoiepaaDoor
