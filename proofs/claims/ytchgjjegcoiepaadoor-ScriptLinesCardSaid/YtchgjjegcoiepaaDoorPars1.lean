/- script.Parse at a text of one line. -/
import Derived.Test.YtchgjjegcoiepaaDoorHead
import Derived.Test.YtchgjjegcoiepaaDoorLines
namespace Go.Proofs.YtchgjjegcoiepaaDoor
open Go.RowKit
attribute [local go_sem] Oper.semAt_some

theorem lines_any (s : ByteArray) (w : World) : Calls Tryd.prog 21 #[.string s] w fun e w' => e = .returned (.func (.func 44) #[] #[.pointer (some ⟨w.heap.size, 0, none⟩)]) ∧ w' = w.alloc (.cells #[.string s] 9) := by
  have hmf : ∀ (fn : Fn) (first cap : Array Value) (w : World), (Instr.makeFunc fn first cap).run Tryd.prog w = .ok (.func fn first cap) w := fun _ _ _ _ => rfl
  go_enter Tryd.func21, Tryd.ntmps21
  go_wp2
  go_ret
  exact ⟨rfl, rfl⟩

set_option maxRecDepth 100000 in
set_option maxHeartbeats 1000000 in
theorem pars1_any (s line : ByteArray) (hs : s.size ≤ 1000) (hlz : line.size ≤ 1000) (hl : linL s.data.toList = [line.data.toList]) (hc : Lib.countByte s.data.toList 10 = 1) (hx : Lib.hasSuffix s.data.toList [10] = true)
    (x y : Nat) (r : RS) (hh : headF ⟨line, true, false⟩ = (x, y, r)) (hb : r.bad = false) (w : World) (hw : 14 ≤ w.heap.size) (hE : TabE w) (hP : TabP w) :
    Calls Tryd.prog 18 #[.string s] w fun e w' => e = .returned (.tuple #[.agg #[.int .i64 x, .int .i64 y, .slice none 0 0], .int .i64 0, .int .i64 0]) ∧ Fr No w w' := by
  have HC := Lib.hid (fun w => Tryd.strings_Count_one s 10 w)
  rw [hc] at HC
  have HS := Lib.hid (fun w => Tryd.strings_HasSuffix s ⟨#[10]⟩ w (by omega))
  have HL := Lib.hid (fun w => lines_any s w)
  refine calls_of_marks Tryd.func18 rfl ?_
  simp only [Tryd.ntmps18, List.size_toArray, List.length_cons, List.length_nil, Nat.reduceAdd, Nat.reduceSub, Array.replicate_succ, Array.replicate_zero, List.push_toArray, List.append_toArray, List.nil_append, List.cons_append]
  go_wp2
  go_step3
  go_upto_region 3 with fail
  generalize hW : World.alloc (World.alloc (World.alloc (World.alloc w _) _) _) _ = W0
  obtain ⟨a0, a1, a2, a3, a4, hF⟩ := al4 hW
  clear hW
  have c1 := (cell_of_block a1 0)
  simp only [List.getElem?_toArray, List.getElem?_cons_zero] at c1
  go_wp2_with (go_at_call 37; refine (HC.out _).mono ?_; rintro e w' ⟨rfl, rfl⟩)
  go_step3
  go_wp2_with (go_at_call 21; refine (HL.out _).mono ?_; rintro e w' ⟨rfl, rfl⟩)
  generalize hW : World.alloc (World.alloc (World.alloc (World.alloc (World.alloc W0 _) _) _) _) _ = W1
  obtain ⟨e0, e1, e2, e3, e4, e5, hF1⟩ := al5 hW
  clear hW
  obtain ⟨B, hB⟩ : ∃ B, w.heap.size = B := ⟨_, rfl⟩
  rw [hB] at a0 a1 a2 a3 a4 hw
  rw [a0] at e0 e1 e2 e3 e4 e5
  simp only [hB]
  have f01 : Fr No w W1 := (hF No).trans (hF1 No)
  have g1 := ((hF1 No).block B (by omega) id).trans a1
  have g2 := ((hF1 No).block (B + 1) (by omega) id).trans a2
  have g3 := ((hF1 No).block (B + 1 + 1) (by omega) id).trans a3
  have g4 := ((hF1 No).block (B + 1 + 1 + 1) (by omega) id).trans a4
  clear a0 a1 a2 a3 a4 hF hF1 c1
  refine wp_rng rfl (enters_of Tryd.func44 (by kernel_rfl) rfl) (fun rec hy => ?_)
  generalize hWl : World.alloc (World.alloc W1 _) _ = Wl
  obtain ⟨l0, l1, l2, hFl⟩ := al2 hWl
  rw [e0] at l0 l1 l2 ⊢
  clear hWl
  have k1 := ((hFl No).block (B + 1) (by omega) id).trans g2
  have k2 := ((hFl No).block (B + 1 + 1) (by omega) id).trans g3
  have k3 := ((hFl No).block (B + 1 + 1 + 1) (by omega) id).trans g4
  have k0 := ((hFl No).block B (by omega) id).trans g1
  have k4 := ((hFl No).block (B + 4) (by omega) id).trans e1
  have k5 := ((hFl No).block (B + 4 + 1) (by omega) id).trans e2
  have k6 := ((hFl No).block (B + 4 + 1 + 1) (by omega) id).trans e3
  have k7 := ((hFl No).block (B + 4 + 1 + 1 + 1) (by omega) id).trans e4
  have k8 : Bx Wl (B + 4 + 1 + 1 + 1 + 1) 9 (.string s) := ((hFl No).block (B + 4 + 1 + 1 + 1 + 1) (by omega) id).trans e5
  have f0l : Fr No w Wl := f01.trans (hFl No)
  clear g1 g2 g3 g4 e1 e2 e3 e4 e5 hFl f01
  refine (lines1_in 2 (B + 4 + 5 + 1) (B + 4 + 1 + 1 + 1 + 1) s (by omega) (fun k W => k = 0 ∧ Fr (One (B + 4 + 1 + 1 + 1 + 1)) Wl W) (fun W => Fr No w W ∧ W.heap[B + 4 + 5]? = some (.deferred (some [])) ∧ W.heap[B + 4 + 5 + 1]? = some (.loop (rec .done (some .ret))) ∧
      W.heap[B + 1]? = some (.cells #[.int .i64 x, .int .i64 y, .slice none 0 0] 37 (0, 0)) ∧ W.heap[B + 1 + 1]? = some (.cells #[.int .i64 0] 3 (0, 0)) ∧ W.heap[B + 1 + 1 + 1]? = some (.cells #[.int .i64 0] 28 (0, 0))) Wl k8 (by decide) ?_ ?_ ⟨rfl, Fr.refl Wl⟩).mono ?_
  · rintro k A C ⟨h1, h2⟩ h3
    exact ⟨h1, h2.trans h3⟩
  · rintro k hk A ⟨rfl, hA⟩
    have hln : (linL s.data.toList)[0] = line.data.toList := by simp only [hl, List.getElem_cons_zero]
    have ez : (((0 : Nat) : Int) + 1) = 1 := rfl
    simp only [hln, ez]
    have hlp := (hA.block (B + 4 + 5 + 1) (by omega) (by intro h; have h : B + 4 + 5 + 1 = B + 4 + 1 + 1 + 1 + 1 := h; omega)).trans l2
    refine hy _ _ _ _ _ hlp rfl ?_
    have HLP := Lib.hid hlp
    have NT : ∀ k, k < 14 → ¬ One (B + 4 + 1 + 1 + 1 + 1) k := fun k hk h => by have h : k = B + 4 + 1 + 1 + 1 + 1 := h; omega
    have ne : ∀ k, k < B + 4 + 5 + 2 → k ≠ B + 4 + 1 + 1 + 1 + 1 → k < Wl.heap.size ∧ ¬ One (B + 4 + 1 + 1 + 1 + 1) k := fun k h1 h2 => ⟨by omega, fun h => h2 h⟩
    have j0 := (hA.block B (ne _ (by omega) (by omega)).1 (ne _ (by omega) (by omega)).2).trans k0
    have j1 := (hA.block (B + 1) (ne _ (by omega) (by omega)).1 (ne _ (by omega) (by omega)).2).trans k1
    have j2 := (hA.block (B + 1 + 1) (ne _ (by omega) (by omega)).1 (ne _ (by omega) (by omega)).2).trans k2
    have j3 := (hA.block (B + 1 + 1 + 1) (ne _ (by omega) (by omega)).1 (ne _ (by omega) (by omega)).2).trans k3
    have j4 := (hA.block (B + 4) (ne _ (by omega) (by omega)).1 (ne _ (by omega) (by omega)).2).trans k4
    have j5 := (hA.block (B + 4 + 1) (ne _ (by omega) (by omega)).1 (ne _ (by omega) (by omega)).2).trans k5
    have j6 := (hA.block (B + 4 + 1 + 1) (ne _ (by omega) (by omega)).1 (ne _ (by omega) (by omega)).2).trans k6
    have j7 := (hA.block (B + 4 + 1 + 1 + 1) (ne _ (by omega) (by omega)).1 (ne _ (by omega) (by omega)).2).trans k7
    have jd := (hA.block (B + 4 + 5) (ne _ (by omega) (by omega)).1 (ne _ (by omega) (by omega)).2).trans l1
    have f0A : Fr No w A := f0l.then hA (fun i hi h => by have h : i = B + 4 + 1 + 1 + 1 + 1 := h; omega)
    have hsA := hA.size
    clear hlp k0 k1 k2 k3 k4 k5 k6 k7 k8 l1 l2 ez hln hk hA ne NT
    gi_wp2
    refine ⟨HLP.out, ?_⟩
    generalize hQQ : rPost _ _ _ = QQ
    have HQQ := Lib.hid hQQ
    clear hQQ
    generalize hAb : World.putObj A _ _ = Ab
    have hQ : Fr (One (B + 4 + 5 + 1)) A Ab := by rw [← hAb]; exact (Fr.refl A).put _ (.inl rfl)
    have hlb : Ab.heap[B + 4 + 5 + 1]? = some (.loop (rec .busy none)) := by rw [← hAb]; exact World.putObj_heap_same (by omega)
    clear hAb
    have ne2 : ∀ k, k < B + 4 + 5 + 1 → k < A.heap.size ∧ ¬ One (B + 4 + 5 + 1) k := fun k h1 => ⟨by omega, fun h => by have h : k = B + 4 + 5 + 1 := h; omega⟩
    have i0 := (hQ.block B (ne2 _ (by omega)).1 (ne2 _ (by omega)).2).trans j0
    have i1 := (hQ.block (B + 1) (ne2 _ (by omega)).1 (ne2 _ (by omega)).2).trans j1
    have i2 := (hQ.block (B + 1 + 1) (ne2 _ (by omega)).1 (ne2 _ (by omega)).2).trans j2
    have i3 := (hQ.block (B + 1 + 1 + 1) (ne2 _ (by omega)).1 (ne2 _ (by omega)).2).trans j3
    have i4 := (hQ.block (B + 4) (ne2 _ (by omega)).1 (ne2 _ (by omega)).2).trans j4
    have i5 := (hQ.block (B + 4 + 1) (ne2 _ (by omega)).1 (ne2 _ (by omega)).2).trans j5
    have i6 := (hQ.block (B + 4 + 1 + 1) (ne2 _ (by omega)).1 (ne2 _ (by omega)).2).trans j6
    have i7 := (hQ.block (B + 4 + 1 + 1 + 1) (ne2 _ (by omega)).1 (ne2 _ (by omega)).2).trans j7
    have id' := (hQ.block (B + 4 + 5) (ne2 _ (by omega)).1 (ne2 _ (by omega)).2).trans jd
    have f0b : Fr No w Ab := f0A.then hQ (fun i hi h => by have h : i = B + 4 + 5 + 1 := h; omega)
    have hsb := hQ.size
    clear j0 j1 j2 j3 j4 j5 j6 j7 jd f0A hQ ne2 HLP
    have y6 := cell_of_block i6 0
    have z6 := free_of_block i6 0
    simp only [List.getElem?_toArray, List.getElem?_cons_zero] at y6
    have q6 := setCell_block i6 0 (.int .i64 1)
    have hF1 : Fr (One (B + 4 + 1 + 1)) Ab (Ab.setCell ⟨B + 4 + 1 + 1, 0, none⟩ (.int .i64 1)) := (Fr.refl Ab).set1 _ _
    gi_wp2
    refine ⟨trivial, ?_⟩
    have hsz : (Ab.setCell ⟨B + 4 + 1 + 1, 0, none⟩ (.int .i64 1)).heap.size = Ab.heap.size := by simp [World.setCell]
    generalize World.setCell Ab _ _ = Ac at hF1 q6 hsz ⊢
    generalize hW2 : World.alloc Ac _ = W2
    obtain ⟨s0, s1, hF2⟩ := al1 hW2
    clear hW2
    have hR : Fr (One (B + 4 + 1 + 1)) Ab W2 := hF1.trans (hF2 _)
    have keep : ∀ k o, k ≠ B + 4 + 1 + 1 → Ab.heap[k]? = some o → W2.heap[k]? = some o := fun k o h1 h2 => (hR.block k (lt_of_block h2) (fun h => h1 h)).trans h2
    have m0 := keep _ _ (by omega) i0
    have m1 := keep _ _ (by omega) i1
    have m2 := keep _ _ (by omega) i2
    have m3 := keep _ _ (by omega) i3
    have m4 := keep _ _ (by omega) i4
    have m5 := keep _ _ (by omega) i5
    have m7 := keep _ _ (by omega) i7
    have md := keep _ _ (by omega) id'
    have ml := keep _ _ (by omega) hlb
    have m6 := ((hF2 No).block _ (lt_of_block q6) id).trans q6
    have f02 : Fr No w W2 := f0b.then hR (fun i hi h => by have h : i = B + 4 + 1 + 1 := h; omega)
    rw [hsz] at s0 s1
    have hszB : B + 4 + 5 + 2 ≤ Ab.heap.size := by omega
    clear i0 i1 i2 i3 i4 i5 i6 i7 id' hlb keep hR hF1 hF2 q6 hsz f0b y6 z6
    have HH := Lib.hid (head_any Ab.heap.size ⟨line, true, false⟩ W2 s1 (by omega) (Nat.le_trans hlz (by decide)) (hE.fr f02 (fun _ _ => id)) (TabP.fr hP f02 (fun _ _ => id)))
    rw [hh] at HH
    unfold RsPost at HH
    dsimp only at HH
    refine (CallsIn.inRound _ (callsIn_wide.2 HH.out)).mono ?_
    rintro e W3 ⟨rfl, hr3, f3⟩
    have keep : ∀ k o, k < B + 4 + 5 + 2 → W2.heap[k]? = some o → W3.heap[k]? = some o := fun k o h1 h2 => (f3.block k (lt_of_block h2) (fun h => by have h : k = Ab.heap.size := h; omega)).trans h2
    have n0 := keep _ _ (by omega) m0
    have n1 := keep _ _ (by omega) m1
    have n2 := keep _ _ (by omega) m2
    have n3 := keep _ _ (by omega) m3
    have n4 := keep _ _ (by omega) m4
    have n5 := keep _ _ (by omega) m5
    have nd := keep _ _ (by omega) md
    have nl := keep _ _ (by omega) ml
    have f03 : Fr No w W3 := f02.then f3 (fun i hi h => by have h : i = Ab.heap.size := h; omega)
    clear keep m0 m1 m2 m3 m4 m5 m6 m7 md ml f02 f3
    have u4 := cell_of_block n4
    have z4 := free_of_block n4
    have u40 := u4 0
    have u41 := u4 1
    have u42 := u4 2
    have z40 := z4 0
    have z41 := z4 1
    have u5 := cell_of_block n5 0
    have u0 := cell_of_block n0 0
    have v10 := cell_of_block n1 0
    have v11 := cell_of_block n1 1
    have v12 := cell_of_block n1 2
    have z1 := free_of_block n1
    have z10 := z1 0
    have z11 := z1 1
    have z12 := z1 2
    have v2 := cell_of_block n2 0
    have z2 := free_of_block n2 0
    have v3 := cell_of_block n3 0
    have z3 := free_of_block n3 0
    simp only [List.getElem?_toArray, List.getElem?_cons_zero, List.getElem?_cons_succ] at u40 u41 u42 u5 u0 v10 v11 v12 v2 v3
    have b2 := hr3.c2
    rw [hb] at b2
    have HN0 := Lib.hid n0
    have HN4 := Lib.hid n4
    have HN1 := Lib.hid n1
    have HN2 := Lib.hid n2
    have HN3 := Lib.hid n3
    have HND := Lib.hid nd
    have HNL := Lib.hid nl
    have HR3 := Lib.hid hr3
    rw [hx] at HS
    clear u4 z4 z1 n0 n1 n2 n3 n4 n5 nd nl hr3 hh hl hc hx hE hP
    gi_wp2_with fail
    refine ⟨trivial, ?_⟩
    refine (CallsIn.inRound _ (callsIn_wide.2 (HS.out _))).mono ?_
    rintro e w' ⟨rfl, rfl⟩
    have p4 : ((W3.setCell ⟨B + 4, 0, none⟩ (.int .i64 x)).setCell ⟨B + 4, 1, none⟩ (.int .i64 y)).heap[B + 4]? = some (.cells #[.int .i64 x, .int .i64 y, .slice none 0 0] 37 (0, 0)) := by
      rw [setCell_block (setCell_block HN4.out 0 _) 1 _]; rfl
    have hF4 : Fr (One (B + 4)) W3 ((W3.setCell ⟨B + 4, 0, none⟩ (.int .i64 x)).setCell ⟨B + 4, 1, none⟩ (.int .i64 y)) := ((Fr.refl W3).set1 _ _).set1 _ _
    generalize World.setCell (World.setCell W3 _ _) _ _ = W4 at p4 hF4 ⊢
    have keep : ∀ k o, k ≠ B + 4 → W3.heap[k]? = some o → W4.heap[k]? = some o := fun k o h1 h2 => (hF4.block k (lt_of_block h2) (fun h => h1 h)).trans h2
    have p0 := keep _ _ (by omega) HN0.out
    have p1 := keep _ _ (by omega) HN1.out
    have p2 := keep _ _ (by omega) HN2.out
    have p3 := keep _ _ (by omega) HN3.out
    have pd := keep _ _ (by omega) HND.out
    have pl := keep _ _ (by omega) HNL.out
    have f04 : Fr No w W4 := f03.then hF4 (fun i hi h => by have h : i = B + 4 := h; omega)
    clear keep hF4 f03 z40 z41 z10 z11 z12 z2 z3 u40 u41 u42 u5 u0 v10 v11 v12 v2 v3 b2 HN0 HN1 HN2 HN3 HN4 HND HNL HR3
    have u4 := cell_of_block p4
    have u40 := u4 0
    have u41 := u4 1
    have u42 := u4 2
    have v1 := cell_of_block p1
    have v10 := v1 0
    have v11 := v1 1
    have v12 := v1 2
    have z1 := free_of_block p1
    have z10 := z1 0
    have z11 := z1 1
    have z12 := z1 2
    have v2 := cell_of_block p2 0
    have z2 := free_of_block p2 0
    have v3 := cell_of_block p3 0
    have z3 := free_of_block p3 0
    simp only [List.getElem?_toArray, List.getElem?_cons_zero, List.getElem?_cons_succ] at u40 u41 u42 v10 v11 v12 v2 v3
    have HP1 := Lib.hid p1
    have HP2 := Lib.hid p2
    have HP3 := Lib.hid p3
    have HPD := Lib.hid pd
    have HPL := Lib.hid pl
    clear u4 v1 z1 p0 p1 p2 p3 p4 pd pl
    gi_wp2
    rw [← HQQ.out]
    have r1 := setCell_block (setCell_block (setCell_block HP1.out 0 (.int .i64 x)) 1 (.int .i64 y)) 2 (.slice none 0 0)
    have hA1 : Fr (One (B + 1)) W4 (((W4.setCell ⟨B + 1, 0, none⟩ (.int .i64 x)).setCell ⟨B + 1, 1, none⟩ (.int .i64 y)).setCell ⟨B + 1, 2, none⟩ (.slice none 0 0)) := (((Fr.refl W4).set1 _ _).set1 _ _).set1 _ _
    generalize World.setCell (World.setCell (World.setCell W4 _ _) _ _) _ _ = W5 at r1 hA1 ⊢
    have r2 := setCell_block ((hA1.block _ (lt_of_block HP2.out) (fun h => by have h : B + 1 + 1 = B + 1 := h; omega)).trans HP2.out) 0 (.int .i64 0)
    have hA2 : Fr (One (B + 1 + 1)) W5 (W5.setCell ⟨B + 1 + 1, 0, none⟩ (.int .i64 0)) := (Fr.refl W5).set1 _ _
    generalize World.setCell W5 _ _ = W6 at r2 hA2 ⊢
    have hA12 : ∀ k o, k ≠ B + 1 → k ≠ B + 1 + 1 → W4.heap[k]? = some o → W6.heap[k]? = some o := fun k o h1 h2 h3 => by
      have a := (hA1.block k (lt_of_block h3) (fun h => h1 h)).trans h3
      exact (hA2.block k (lt_of_block a) (fun h => h2 h)).trans a
    have r3 := setCell_block (hA12 _ _ (by omega) (by omega) HP3.out) 0 (.int .i64 0)
    have hA3 : Fr (One (B + 1 + 1 + 1)) W6 (W6.setCell ⟨B + 1 + 1 + 1, 0, none⟩ (.int .i64 0)) := (Fr.refl W6).set1 _ _
    generalize World.setCell W6 _ _ = W7 at r3 hA3 ⊢
    have hA13 : ∀ k o, k ≠ B + 1 → k ≠ B + 1 + 1 → k ≠ B + 1 + 1 + 1 → W4.heap[k]? = some o → W7.heap[k]? = some o := fun k o h1 h2 h4 h3 => by
      have a := hA12 k o h1 h2 h3
      exact (hA3.block k (lt_of_block a) (fun h => h4 h)).trans a
    have t1 := (hA3.block _ (lt_of_block ((hA2.block _ (lt_of_block r1) (fun h => by have h : B + 1 = B + 1 + 1 := h; omega)).trans r1)) (fun h => by have h : B + 1 = B + 1 + 1 + 1 := h; omega)).trans ((hA2.block _ (lt_of_block r1) (fun h => by have h : B + 1 = B + 1 + 1 := h; omega)).trans r1)
    have t2 := (hA3.block _ (lt_of_block r2) (fun h => by have h : B + 1 + 1 = B + 1 + 1 + 1 := h; omega)).trans r2
    have td := hA13 _ _ (by omega) (by omega) (by omega) HPD.out
    have tl := hA13 _ _ (by omega) (by omega) (by omega) HPL.out
    have f07 : Fr No w W7 := ((f04.then hA1 (fun i hi h => by have h : i = B + 1 := h; omega)).then hA2 (fun i hi h => by have h : i = B + 1 + 1 := h; omega)).then hA3 (fun i hi h => by have h : i = B + 1 + 1 + 1 := h; omega)
    have hlt7 := lt_of_block tl
    have hPt : ∀ k, k ≠ B + 4 + 5 + 1 → (W7.putObj (B + 4 + 5 + 1) (.loop (rec .done (some .ret)))).heap[k]? = W7.heap[k]? := fun k hk => World.putObj_heap_other hk
    refine ⟨tl, ⟨rfl, f07.put _ (.inr (by omega)), (hPt _ (by omega)).trans td, World.putObj_heap_same hlt7, (hPt _ (by omega)).trans (t1.trans (by rfl)), (hPt _ (by omega)).trans (t2.trans (by rfl)), (hPt _ (by omega)).trans (r3.trans (by rfl))⟩⟩
  · rintro e W ⟨⟨v, rfl⟩, ⟨h1, _⟩ | ⟨f, hd, hlp, h1, h2, h3⟩⟩
    · rw [hl] at h1; simp at h1
    · refine ⟨⟨v, rfl⟩, .inr ⟨.ret, hlp, ?_⟩⟩
      have hPt : ∀ k, k ≠ B + 4 + 5 + 1 → (W.putObj (B + 4 + 5 + 1) (.loop (rec .exhausted (some .ret)))).heap[k]? = W.heap[k]? := fun k hk => World.putObj_heap_other hk
      have hd' := (hPt _ (by omega)).trans hd
      have h1' := (hPt _ (by omega)).trans h1
      have h2' := (hPt _ (by omega)).trans h2
      have h3' := (hPt _ (by omega)).trans h3
      have f' := f.put (l := B + 4 + 5 + 1) (.loop (rec .exhausted (some .ret))) (.inr (by omega))
      generalize World.putObj W _ _ = W8 at hd' h1' h2' h3' f' ⊢
      go_wp2
      refine ⟨by simp, .inl ⟨_, _, rfl, run_takeDeferred hd', ?_⟩⟩
      have hPd : ∀ k, k ≠ B + 4 + 5 → (W8.putObj (B + 4 + 5) (.deferred none)).heap[k]? = W8.heap[k]? := fun k hk => World.putObj_heap_other hk
      have h1'' := (hPd _ (by omega)).trans h1'
      have h2'' := (hPd _ (by omega)).trans h2'
      have h3'' := (hPd _ (by omega)).trans h3'
      have f'' := f'.put (l := B + 4 + 5) (.deferred none) (.inr (by omega))
      generalize World.putObj W8 _ _ = W9 at h1'' h2'' h3'' f'' ⊢
      have c1 := cell_of_block h1''
      have c10 := c1 0
      have c11 := c1 1
      have c12 := c1 2
      have c2 := cell_of_block h2'' 0
      have c3 := cell_of_block h3'' 0
      simp only [List.getElem?_toArray, List.getElem?_cons_zero, List.getElem?_cons_succ] at c10 c11 c12 c2 c3
      refine ⟨.tuple #[.agg #[.int .i64 x, .int .i64 y, .slice none 0 0], .int .i64 0, .int .i64 0], ?_, rfl, f''⟩
      simp [results, Tryd.results18, go_sem, c10, c11, c12, c2, c3]
end Go.Proofs.YtchgjjegcoiepaaDoor
