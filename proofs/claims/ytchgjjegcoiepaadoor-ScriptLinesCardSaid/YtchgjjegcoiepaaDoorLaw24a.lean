/- The law ScriptLines: the walk of its function. -/
import Derived.Test.YtchgjjegcoiepaaDoorRLines
namespace Go.Proofs.YtchgjjegcoiepaaDoor
open Go.RowKit
attribute [local go_sem] Oper.semAt_some

theorem res6 {W : World} {b : Nat} {t : Bool} (h : W.heap[b]? = some (.cells #[.bool t] 4 (0, 0))) (a : Array Value) (h2 : a[4]?.getD undef = .pointer (some ⟨b, 0, none⟩)) : (results Tryd.f6 a).run Tryd.prog W = .ok (.bool t) W := by
  have q0 := cell_of_block h 0
  simp only [List.getElem?_toArray, List.getElem?_cons_zero] at q0
  simp [results, Tryd.results6, go_sem, h2, q0]

set_option maxRecDepth 100000 in
set_option maxHeartbeats 2000000 in
theorem slines_long (s : ByteArray) (st : Nat) (w : World) (hw : 14 ≤ w.heap.size) (hE : TabE w) (hP : TabP w) (hs : 1000 < s.size) :
    Calls Tryd.prog 6 #[.string s, .int .u8 st] w fun e w' => e = .returned (.bool true) ∧ Fr No w w' := by
  have HW := Lib.hid (fun wx (fx : Fr No w wx) => wakes24_any wx (by have := fx.size; omega) (hE.fr fx (fun _ _ => id)) (TabP.fr hP fx (fun _ _ => id)))
  refine calls_of_marks Tryd.func6 rfl ?_
  simp only [Tryd.ntmps6, List.size_toArray, List.length_cons, List.length_nil, Nat.reduceAdd, Nat.reduceSub, Array.replicate_succ, Array.replicate_zero, List.push_toArray, List.append_toArray, List.nil_append, List.cons_append]
  go_upto_region 1 with fail
  generalize hW : World.alloc (World.alloc w _) _ = W0
  obtain ⟨a0, a1, a2, hF⟩ := al2 hW
  clear hW
  have HWW := Lib.hid (HW.out W0 (hF No))
  go_wp2_with (go_at_call 16; refine HWW.out.mono ?_; rintro e w1 ⟨rfl, f1⟩; have b2 := (f1.block _ (lt_of_block a2) id).trans a2; have z2 := free_of_block b2 0; have y2 := cell_of_block b2 0; simp only [List.getElem?_toArray, List.getElem?_cons_zero] at y2)
  have b3 := setCell_block b2 0 (.bool true)
  exact ⟨_, res6 b3 _ rfl, rfl, ((hF No).trans f1).setNew (by omega) _ _⟩

def PP (nb tb l : Nat) : Nat → Prop := fun k => k = nb ∨ k = tb ∨ k = l

set_option maxRecDepth 100000 in
set_option maxHeartbeats 2000000 in
theorem slines_ok (s : ByteArray) (st : Nat) (hst : st < 256) (w : World) (hw : 14 ≤ w.heap.size) (hE : TabE w) (hP : TabP w) (hs : s.size ≤ 1000) :
    Calls Tryd.prog 6 #[.string s, .int .u8 st] w fun e w' => e = .returned (.bool true) ∧ Fr No w w' := by
  have HW := Lib.hid (fun wx (fx : Fr No w wx) => wakes24_any wx (by have := fx.size; omega) (hE.fr fx (fun _ _ => id)) (TabP.fr hP fx (fun _ _ => id)))
  have HR := Lib.hid (fun wx => rlines_any s wx (by omega))
  have HL := Lib.hid (fun w => lines_any s w)
  have hLL := linL_len s
  have hne : ∀ (fn : Fn) (first cap : Array Value) (w : World), (binOp .neq 46 (.func fn first cap) .nilFunc).run Tryd.prog w = .ok (.bool true) w := fun _ _ _ _ => rfl
  refine calls_of_marks Tryd.func6 rfl ?_
  simp only [Tryd.ntmps6, List.size_toArray, List.length_cons, List.length_nil, Nat.reduceAdd, Nat.reduceSub, Array.replicate_succ, Array.replicate_zero, List.push_toArray, List.append_toArray, List.nil_append, List.cons_append]
  go_upto_region 1 with fail
  generalize hW : World.alloc (World.alloc w _) _ = W0
  obtain ⟨a0, a1, a2, hF⟩ := al2 hW
  clear hW
  have HWW := Lib.hid (HW.out W0 (hF No))
  go_upto_region 5 with (go_at_call 16; refine HWW.out.mono ?_; rintro e w1 ⟨rfl, f1⟩)
  have HRR := Lib.hid (HR.out w1)
  unfold SPost at HRR
  obtain ⟨L, hL⟩ : ∃ L, linL s.data.toList = L := ⟨_, rfl⟩
  rw [hL] at HRR hLL
  go_upto_region 7 with (go_at_call 17; refine HRR.out.mono ?_; rintro e w2 ⟨v, rfl, sv, f2⟩; obtain ⟨A, cap, rfl, hsv⟩ := id sv)
  generalize hW : World.alloc (World.alloc w2 _) _ = W2
  obtain ⟨e0, e1, e2, hF2⟩ := al2 hW
  clear hW
  go_wp2_with (go_at_call 21; refine (HL.out _).mono ?_; rintro e w' ⟨rfl, rfl⟩)
  generalize hW : World.alloc W2 _ = W1
  obtain ⟨g0, g1, hF1⟩ := al1 hW
  clear hW
  obtain ⟨B, hB⟩ : ∃ B, w.heap.size = B := ⟨_, rfl⟩
  obtain ⟨C, hC⟩ : ∃ C, w2.heap.size = C := ⟨_, rfl⟩
  have hs1 := f1.size
  have hs2 := f2.size
  rw [hB] at a0 a1 a2 hw
  rw [hC] at e0 e1 e2 hs2
  rw [e0] at g0 g1
  have hBC : B + 2 ≤ C := by omega
  simp only [hB, hC]
  have f21 : Fr No w2 W1 := (hF2 No).trans (hF1 No)
  have f01 : Fr No w W1 := (((hF No).trans f1).trans f2).trans f21
  have x1 := (((f1.trans f2).trans f21).block B (by omega) id).trans a1
  have x2 := (((f1.trans f2).trans f21).block (B + 1) (by omega) id).trans a2
  have y1 := ((hF1 No).block C (by omega) id).trans e1
  have y2 := ((hF1 No).block (C + 1) (by omega) id).trans e2
  clear a0 a1 a2 hF e1 e2 hF1 hF2 sv f1 f2
  refine wp_rng rfl (enters_of Tryd.func44 (by kernel_rfl) rfl) (fun rec hy => ?_)
  generalize hWl : World.alloc (World.alloc W1 _) _ = Wl
  obtain ⟨l0, l1, l2, hFl⟩ := al2 hWl
  clear hWl
  rw [g0] at l0 l1 l2 ⊢
  have m1 := ((hFl No).block B (by omega) id).trans x1
  have m2 := ((hFl No).block (B + 1) (by omega) id).trans x2
  have m3 := ((hFl No).block C (by omega) id).trans y1
  have m4 := ((hFl No).block (C + 1) (by omega) id).trans y2
  have m5 : Bx Wl (C + 2) 9 (.string s) := ((hFl No).block (C + 2) (by omega) id).trans g1
  have f2l : Fr No w2 Wl := f21.trans (hFl No)
  have f0l : Fr No w Wl := f01.trans (hFl No)
  clear x1 x2 y1 y2 g1 hFl f01 f21
  have HPP : ∀ k, k < Wl.heap.size → k ≠ C + 1 → k ≠ C + 2 → k ≠ C + 2 + 1 + 1 → ¬ PP (C + 1) (C + 2) (C + 2 + 1 + 1) k := fun k _ h1 h2 h3 h => by rcases h with h | h | h <;> omega
  have svA : ∀ A2, Fr (PP (C + 1) (C + 2) (C + 2 + 1 + 1)) Wl A2 → SlS A2 (.slice A L.length cap) L := by
    intro A2 hA2
    refine ⟨A, cap, rfl, fun h => ?_⟩
    obtain ⟨g, off, e, hb, hc⟩ := hsv h
    have hgC : g < C := by have : g < w2.heap.size := hb; omega
    have hgl : g < Wl.heap.size := by omega
    refine ⟨g, off, e, Nat.lt_of_lt_of_le hgl hA2.size, fun j hj => ?_⟩
    exact (hA2.cell (p := ⟨g, off + j, none⟩) hgl (HPP g hgl (by omega) (by omega) (by omega))).trans ((f2l.cell (p := ⟨g, off + j, none⟩) hb id).trans (hc j hj))
  clear hsv f2l
  refine (lines1_in 2 (C + 2 + 1 + 1) (C + 2) s (by omega) (fun k W => k ≤ st ∧ W.heap[C + 1]? = some (.cells #[.int .i64 k] 3 (0, 0)) ∧ Fr (PP (C + 1) (C + 2) (C + 2 + 1 + 1)) Wl W ∧ W.heap[C + 2 + 1 + 1]? = some (.loop (rec .ready none)))
     (fun W => st < L.length ∧ W.heap[C + 1]? = some (.cells #[.int .i64 st] 3 (0, 0)) ∧ Fr (PP (C + 1) (C + 2) (C + 2 + 1 + 1)) Wl W ∧ W.heap[C + 2 + 1 + 1]? = some (.loop (rec .done (some (.exit 0))))) Wl m5 (by decide) ?_ ?_ ⟨by omega, m4, Fr.refl Wl, l2⟩).mono ?_
  · rintro k A2 C2 ⟨h1, h2, h3, h4⟩ h5
    refine ⟨h1, (h5.block _ (lt_of_block h2) (fun h => by have h : C + 1 = C + 2 := h; omega)).trans h2, h3.then h5 (fun i _ h => .inr (.inl h)), (h5.block _ (lt_of_block h4) (fun h => by have h : C + 2 + 1 + 1 = C + 2 := h; omega)).trans h4⟩
  · rintro k hk A1 ⟨hks, hn, hA, hlp⟩
    refine hy _ _ _ _ _ hlp rfl ?_
    have HLP := Lib.hid hlp
    rw [hL] at hk
    have hSk : ∃ S : ByteArray, (⟨((linL s.data.toList)[k]'(by rw [hL]; exact hk)).toArray⟩ : ByteArray) = S ∧ (⟨L[k].toArray⟩ : ByteArray) = S := by
      subst hL; exact ⟨_, rfl, rfl⟩
    obtain ⟨S, hS1, hS2⟩ := hSk
    simp only [hS1]
    have sz := hA.size
    have z1 := (hA.block B (by omega) (HPP _ (by omega) (by omega) (by omega) (by omega))).trans m1
    have z2 := (hA.block (B + 1) (by omega) (HPP _ (by omega) (by omega) (by omega) (by omega))).trans m2
    have z3 := (hA.block C (by omega) (HPP _ (by omega) (by omega) (by omega) (by omega))).trans m3
    have hbx : ∀ v, Bx A1 (C + 2) 9 v → A1.heap[C + 2]? = some (.cells #[v] 9 (0, 0)) := fun v h => h
    clear hlp m1 m2 m3 m4 m5 l1 l2
    gi_wp2
    refine ⟨HLP.out, ?_⟩
    generalize hQQ : rPost _ _ _ = QQ
    have HQQ := Lib.hid hQQ
    clear hQQ
    generalize hAb : World.putObj A1 _ _ = Ab
    have hQ : Fr (One (C + 2 + 1 + 1)) A1 Ab := by rw [← hAb]; exact (Fr.refl A1).put _ (.inl rfl)
    have hlb : Ab.heap[C + 2 + 1 + 1]? = some (.loop (rec .busy none)) := by rw [← hAb]; exact World.putObj_heap_same (by omega)
    clear hAb
    have ne2 : ∀ k, k ≠ C + 2 + 1 + 1 → ¬ One (C + 2 + 1 + 1) k := fun k h1 h => h1 h
    have i1 := (hQ.block B (by omega) (ne2 _ (by omega))).trans z1
    have i2 := (hQ.block (B + 1) (by omega) (ne2 _ (by omega))).trans z2
    have i3 := (hQ.block C (by omega) (ne2 _ (by omega))).trans z3
    have i4 := (hQ.block (C + 1) (by omega) (ne2 _ (by omega))).trans hn
    have fAb : Fr (PP (C + 1) (C + 2) (C + 2 + 1 + 1)) Wl Ab := hA.then hQ (fun i _ h => .inr (.inr h))
    have hbx2 : ∀ v, Bx A1 (C + 2) 9 v → Bx Ab (C + 2) 9 v := fun v h => h.fr hQ (ne2 _ (by omega))
    have hsb := hQ.size
    obtain ⟨A3, cap3, eA, hA3⟩ := svA Ab fAb
    clear svA
    injection eA with ea1 ea2 ea3
    subst ea1
    obtain ⟨g, off, hAe, hgk, hcell⟩ := hA3 (by omega)
    subst hAe
    have hck : Ab.cell? ⟨g, off + k, none⟩ = some (.string S) := by
      have := hcell k hk
      rw [hS2] at this
      exact this
    have y1 := cell_of_block i1 0
    have y3 := cell_of_block i3 0
    have y4 := cell_of_block i4 0
    have z4 := free_of_block i4 0
    simp only [List.getElem?_toArray, List.getElem?_cons_zero] at y1 y3 y4
    have q4 := setCell_block i4 0 (.int .i64 ((k : Int) + 1))
    have HLB := Lib.hid hlb
    clear hn hlb z1 z2 z3 hA3 hcell hS1 hS2
    by_cases hst2 : st ≤ k
    · have eks : k = st := by omega
      gi_wp2_with fail
      rw [← HQQ.out]
      refine ⟨HLB.out, .inr ⟨rfl, by omega, (World.putObj_heap_other (by omega)).trans (i4.trans (by rw [eks])), fAb.put _ (.inl (.inr (.inr rfl))), World.putObj_heap_same (by omega)⟩⟩
    · have hlt3 : (k : Int) < L.length := by omega
      gi_wp2_with fail
      rw [← HQQ.out]
      have hF4 : Fr (One (C + 1)) Ab (Ab.setCell ⟨C + 1, 0, none⟩ (.int .i64 ((k : Int) + 1))) := (Fr.refl Ab).set1 _ _
      have hlb5 := (hF4.block (C + 2 + 1 + 1) (lt_of_block HLB.out) (fun h => by have h : C + 2 + 1 + 1 = C + 1 := h; omega)).trans HLB.out
      have hbx3 : ∀ v, Bx A1 (C + 2) 9 v → Bx (Ab.setCell ⟨C + 1, 0, none⟩ (.int .i64 ((k : Int) + 1))) (C + 2) 9 v := fun v h => (hbx2 v h).fr hF4 (fun h => by have h : C + 2 = C + 1 := h; omega)
      generalize World.setCell Ab _ _ = W5 at q4 hF4 hlb5 hbx3 ⊢
      have f5 : Fr (PP (C + 1) (C + 2) (C + 2 + 1 + 1)) Wl W5 := fAb.then hF4 (fun i _ h => .inl h)
      refine ⟨hlb5, .inl ⟨rfl, ⟨by omega, (World.putObj_heap_other (by omega)).trans (q4.trans (by rfl)), f5.put _ (.inl (.inr (.inr rfl))), World.putObj_heap_same (lt_of_block hlb5)⟩, fun v h => ?_⟩⟩
      exact (World.putObj_heap_other (by omega)).trans (hbx3 v h)
  · rw [hL]
    have fin : ∀ (W : World) (k : Nat) (o : Obj), (k = st ∧ st < L.length ∨ k = L.length ∧ k ≤ st) → W.heap[C + 1]? = some (.cells #[.int .i64 k] 3 (0, 0)) → Fr (PP (C + 1) (C + 2) (C + 2 + 1 + 1)) Wl W →
        ((W.putObj (C + 2 + 1 + 1) o).heap[B]? = some (.cells #[.int .u8 st] 5 (0, 0)) ∧ (W.putObj (C + 2 + 1 + 1) o).heap[B + 1]? = some (.cells #[.bool false] 4 (0, 0)) ∧ (W.putObj (C + 2 + 1 + 1) o).heap[C]? = some (.cells #[.slice A L.length cap] 33 (0, 0)) ∧
          (W.putObj (C + 2 + 1 + 1) o).heap[C + 1]? = some (.cells #[.int .i64 k] 3 (0, 0)) ∧ (W.putObj (C + 2 + 1 + 1) o).heap[C + 2 + 1]? = some (.deferred (some [])) ∧ Fr No w (W.putObj (C + 2 + 1 + 1) o)) := by
      intro W k o _ hn hA
      have f5 : Fr (PP (C + 1) (C + 2) (C + 2 + 1 + 1)) Wl (W.putObj (C + 2 + 1 + 1) o) := hA.put _ (.inl (.inr (.inr rfl)))
      have sz := f5.size
      refine ⟨(f5.block B (by omega) (HPP _ (by omega) (by omega) (by omega) (by omega))).trans m1, (f5.block (B + 1) (by omega) (HPP _ (by omega) (by omega) (by omega) (by omega))).trans m2, (f5.block C (by omega) (HPP _ (by omega) (by omega) (by omega) (by omega))).trans m3,
        (World.putObj_heap_other (by omega)).trans hn, (f5.block (C + 2 + 1) (by omega) (HPP _ (by omega) (by omega) (by omega) (by omega))).trans l1, f0l.then f5 (fun i hi h => by rcases h with h | h | h <;> omega)⟩
    rintro e W ⟨⟨v, rfl⟩, ⟨hk, hn, hA, hlp⟩ | ⟨hk, hn, hA, hlp⟩⟩
    · refine ⟨⟨v, rfl⟩, .inl ⟨hlp, ?_⟩⟩
      obtain ⟨z1, z2, z3, z4, z5, f6⟩ := fin W _ (.loop (rec .exhausted none)) (.inr ⟨rfl, hk⟩) hn hA
      clear fin m1 m2 m3 m4 m5 l1 l2 hn hA hlp svA HPP
      generalize World.putObj W _ _ = W6 at z1 z2 z3 z4 z5 f6 ⊢
      have c1 := cell_of_block z1 0
      have c2 := cell_of_block z2 0
      have c3 := cell_of_block z3 0
      have c4 := cell_of_block z4 0
      have r2 := free_of_block z2 0
      simp only [List.getElem?_toArray, List.getElem?_cons_zero] at c1 c2 c3 c4
      dsimp only [Exit.inBlock, Exit.then]
      go_wp2_with fail
      rw [show ((L.length : Int) == min (st : Int) (L.length : Int)) = true by rw [beq_iff_eq]; omega]
      have b3 := setCell_block z2 0 (.bool true)
      have f7 : Fr No w (W6.setCell ⟨B + 1, 0, none⟩ (.bool true)) := f6.setNew (by omega) _ _
      have z5' : (W6.setCell ⟨B + 1, 0, none⟩ (.bool true)).heap[C + 2 + 1]? = some (.deferred (some [])) := (((Fr.refl W6).set1 (b := B + 1) 0 (.bool true)).block _ (lt_of_block z5) (fun h => by have h : C + 2 + 1 = B + 1 := h; omega)).trans z5
      generalize World.setCell W6 _ _ = W7 at b3 f7 z5' ⊢
      refine ⟨by simp, .inl ⟨_, _, rfl, run_takeDeferred z5', ?_⟩⟩
      have b4 : (W7.putObj (C + 2 + 1) (.deferred none)).heap[B + 1]? = some (.cells #[.bool true] 4 (0, 0)) := (World.putObj_heap_other (by omega)).trans (b3.trans (by rfl))
      exact ⟨_, res6 b4 _ rfl, rfl, f7.put _ (.inr (by omega))⟩
    · refine ⟨⟨v, rfl⟩, .inr ⟨_, hlp, ?_⟩⟩
      obtain ⟨z1, z2, z3, z4, z5, f6⟩ := fin W _ (.loop (rec .exhausted (some (.exit 0)))) (.inl ⟨rfl, hk⟩) hn hA
      clear fin m1 m2 m3 m4 m5 l1 l2 hn hA hlp svA HPP
      generalize World.putObj W _ _ = W6 at z1 z2 z3 z4 z5 f6 ⊢
      have c1 := cell_of_block z1 0
      have c2 := cell_of_block z2 0
      have c3 := cell_of_block z3 0
      have c4 := cell_of_block z4 0
      have r2 := free_of_block z2 0
      simp only [List.getElem?_toArray, List.getElem?_cons_zero] at c1 c2 c3 c4
      go_wp2_with fail
      rw [show ((st : Int) == min (st : Int) (L.length : Int)) = true by rw [beq_iff_eq]; omega]
      have b3 := setCell_block z2 0 (.bool true)
      have f7 : Fr No w (W6.setCell ⟨B + 1, 0, none⟩ (.bool true)) := f6.setNew (by omega) _ _
      have z5' : (W6.setCell ⟨B + 1, 0, none⟩ (.bool true)).heap[C + 2 + 1]? = some (.deferred (some [])) := (((Fr.refl W6).set1 (b := B + 1) 0 (.bool true)).block _ (lt_of_block z5) (fun h => by have h : C + 2 + 1 = B + 1 := h; omega)).trans z5
      generalize World.setCell W6 _ _ = W7 at b3 f7 z5' ⊢
      refine ⟨by simp, .inl ⟨_, _, rfl, run_takeDeferred z5', ?_⟩⟩
      have b4 : (W7.putObj (C + 2 + 1) (.deferred none)).heap[B + 1]? = some (.cells #[.bool true] 4 (0, 0)) := (World.putObj_heap_other (by omega)).trans (b3.trans (by rfl))
      exact ⟨_, res6 b4 _ rfl, rfl, f7.put _ (.inr (by omega))⟩
theorem ScriptLines_any (s : ByteArray) (st : Nat) (hst : st < 256) (w : World) (hw : 14 ≤ w.heap.size) (hE : TabE w) (hP : TabP w) :
    Calls Tryd.prog 6 #[.string s, .int .u8 st] w fun e w' => e = .returned (.bool true) ∧ Fr No w w' := by
  rcases Nat.lt_or_ge 1000 s.size with h | h
  · exact slines_long s st w hw hE hP h
  · exact slines_ok s st hst w hw hE hP h
end Go.Proofs.YtchgjjegcoiepaaDoor
