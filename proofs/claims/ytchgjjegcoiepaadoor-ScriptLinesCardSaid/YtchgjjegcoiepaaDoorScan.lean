import Derived.Test.YtchgjjegcoiepaaDoorBase
namespace Go.Proofs.YtchgjjegcoiepaaDoor
open Go.RowKit

/-- a reader: its text, its place. -/
def Rd (w : World) (b : Nat) (s : ByteArray) (i : Nat) : Prop := w.heap[b]? = some (.cells #[.string s, .int .i64 i] 141 (0, 0)) ∧ i ≤ s.size ∧ s.size ≤ 140737488351232
theorem Rd.c0 {w : World} {b : Nat} {s : ByteArray} {i : Nat} (h : Rd w b s i) : w.cell? ⟨b, 0, none⟩ = some (.string s) := by rw [cell_of_block h.1]; rfl
theorem Rd.c1 {w : World} {b : Nat} {s : ByteArray} {i : Nat} (h : Rd w b s i) : w.cell? ⟨b, 1, none⟩ = some (.int .i64 i) := by rw [cell_of_block h.1]; rfl
theorem Rd.f1 {w : World} {b : Nat} {s : ByteArray} {i : Nat} (h : Rd w b s i) : w.frozen? ⟨b, 1, none⟩ = false := free_of_block h.1 1
theorem Rd.set {w : World} {b : Nat} {s : ByteArray} {i : Nat} (h : Rd w b s i) (j : Nat) (hj : j ≤ s.size) : Rd (w.setCell ⟨b, 1, none⟩ (.int .i64 j)) b s j := ⟨by rw [setCell_block h.1]; simp, hj, h.2.2⟩
theorem Rd.lt {w : World} {b : Nat} {s : ByteArray} {i : Nat} (h : Rd w b s i) : b < w.heap.size := lt_of_block h.1
theorem Rd.fr {P : Nat → Prop} {w w' : World} {b : Nat} {s : ByteArray} {i : Nat} (h : Rd w b s i) (f : Fr P w w') (hb : ¬ P b) : Rd w' b s i := ⟨(f.block b h.lt hb).trans h.1, h.2⟩
theorem Rd.drewN {w : World} {b : Nat} {s : ByteArray} {i : Nat} (h : Rd w b s i) (n : Nat) : Rd (w.drewN n) b s i := h

set_option maxHeartbeats 400000 in
theorem New_any (s : ByteArray) (w : World) :
    Calls Tryd.prog 61 #[.string s] w fun e w' => e = .returned (.pointer (some ⟨w.heap.size, 0, none⟩)) ∧ w' = w.alloc (.cells #[.string s, .int .i64 0] 141) := by
  go_enter Tryd.func61, Tryd.ntmps61
  go_wp2
  go_ret
  exact ⟨rfl, rfl⟩

set_option maxHeartbeats 400000 in
theorem At_any (b : Nat) (s : ByteArray) (i : Nat) (w : World) (h : Rd w b s i) :
    Calls Tryd.prog 65 #[.pointer (some ⟨b, 0, none⟩)] w fun e w' => e = .returned (.int .i64 i) ∧ w' = w := by
  have h1 := h.c1
  clear h
  go_enter Tryd.func65, Tryd.ntmps65
  go_wp2
  go_ret
  exact ⟨rfl, rfl⟩

set_option maxHeartbeats 400000 in
theorem Left_any (b : Nat) (s : ByteArray) (i : Nat) (w : World) (h : Rd w b s i) :
    Calls Tryd.prog 63 #[.pointer (some ⟨b, 0, none⟩)] w fun e w' => e = .returned (.int .i64 (s.size - i : Nat)) ∧ ∃ n, w' = w.drewN n := by
  have h0 := h.c0; have h1 := h.c1; have hi := h.2.1; have hs := h.2.2
  clear h
  go_enter Tryd.func63, Tryd.ntmps63
  go_wp2
  go_quiet (fail)
  go_wp2
  go_ret
  exact ⟨by rw [Int.ofNat_sub hi]; rfl, _, rfl⟩

theorem Peek_end (b : Nat) (s : ByteArray) (i : Nat) (w : World) (h : Rd w b s i) (hi : ¬ i < s.size) :
    Calls Tryd.prog 64 #[.pointer (some ⟨b, 0, none⟩)] w fun e w' => e = .returned (.tuple #[.int .u8 0, .bool false]) ∧ ∃ n, w' = w.drewN n := by
  go_enter Tryd.func64, Tryd.ntmps64
  go_wp2_with (go_at_call 63; refine (Left_any b s i _ h).mono ?_; rintro e w' ⟨rfl, n, rfl⟩; rw [Nat.sub_eq_zero_of_le (Nat.le_of_not_lt hi)])
  go_ret2
  exact ⟨rfl, _, rfl⟩

theorem Peek_some (b : Nat) (s : ByteArray) (i : Nat) (w : World) (h : Rd w b s i) (hi : i < s.size) :
    Calls Tryd.prog 64 #[.pointer (some ⟨b, 0, none⟩)] w fun e w' => e = .returned (.tuple #[.int .u8 (bAt s i), .bool true]) ∧ ∃ n, w' = w.drewN n := by
  have h0 := h.c0; have h1 := h.c1
  have hk : ((((s.size - i : Nat) : Int)) == 0) = false := by simp; omega
  go_enter Tryd.func64, Tryd.ntmps64
  go_wp2_with (go_at_call 63; refine (Left_any b s i _ h).mono ?_; rintro e w' ⟨rfl, n, rfl⟩)
  go_quiet (fail)
  go_wp2
  go_ret2
  exact ⟨by rw [← bAt_eq s i hi]; rfl, _, World.drewN_drewN ..⟩

theorem Skip_end (b : Nat) (s : ByteArray) (i : Nat) (w : World) (h : Rd w b s i) (hi : ¬ i < s.size) :
    Calls Tryd.prog 66 #[.pointer (some ⟨b, 0, none⟩)] w fun e w' => e = .returned (.bool false) ∧ ∃ n, w' = w.drewN n := by
  go_enter Tryd.func66, Tryd.ntmps66
  go_wp2_with (go_at_call 63; refine (Left_any b s i _ h).mono ?_; rintro e w' ⟨rfl, n, rfl⟩; rw [Nat.sub_eq_zero_of_le (Nat.le_of_not_lt hi)])
  go_ret
  exact ⟨rfl, _, rfl⟩

theorem Skip_some (b : Nat) (s : ByteArray) (i : Nat) (w : World) (h : Rd w b s i) (hi : i < s.size) :
    Calls Tryd.prog 66 #[.pointer (some ⟨b, 0, none⟩)] w fun e w' => e = .returned (.bool true) ∧ Rd w' b s (i + 1) ∧ Fr (One b) w w' := by
  have h0 := h.c0; have h1 := h.c1; have f1 := h.f1; have hs := h.2.2
  have hk : ((((s.size - i : Nat) : Int)) == 0) = false := by simp; omega
  go_enter Tryd.func66, Tryd.ntmps66
  go_wp2_with (go_at_call 63; refine (Left_any b s i _ h).mono ?_; rintro e w' ⟨rfl, n, rfl⟩)
  go_ret
  exact ⟨rfl, (h.drewN n).set (i + 1) (by omega), ((Fr.refl w).drewN n).set1 _ _⟩

def isBl (c : Nat) : Bool := c == 9 || c == 10 || c == 13 || c == 32
/-- where blanks end. -/
def blEnd (s : ByteArray) (i : Nat) : Nat := if i < s.size ∧ isBl (bAt s i) = true then blEnd s (i + 1) else i
termination_by s.size - i
def TabBl (w : World) : Prop := ∀ j : Nat, j < 33 → w.cell? ⟨3, j, none⟩ = some (.int .i64 (if isBl j then 1 else 0))
theorem isBl_lt {c : Nat} (h : isBl c = true) : c < 33 := by simp [isBl] at h; omega

set_option maxHeartbeats 400000 in
theorem Blanks_any (b : Nat) (s : ByteArray) (i : Nat) (w : World) (h : Rd w b s i) (hb : 14 ≤ b) (hG : TabBl w) :
    Calls Tryd.prog 62 #[.pointer (some ⟨b, 0, none⟩)] w fun e w' => e = .returned (.int .i64 (blEnd s i - i : Nat)) ∧ Rd w' b s (blEnd s i) ∧ Fr (One b) w w' := by
  have h3 : 3 < w.heap.size := by have := h.lt; omega
  have hs := h.2.2
  go_enter Tryd.func62, Tryd.ntmps62
  go_wp2
  go_loopw [3] (fun n wr => ∃ k : Nat, i + k ≤ s.size ∧ n = .int .i64 k ∧ blEnd s (i + k) = blEnd s i ∧ Rd wr b s (i + k) ∧ Fr (One b) w wr) (fun n _ => s.size - i - (intOf n).toNat)
  case atStart => exact ⟨0, h.2.1, rfl, rfl, h, Fr.refl w⟩
  case round =>
    obtain ⟨k, hk, rfl, he, hr, hf⟩ := hrel
    have HE := Lib.hid he; clear he
    by_cases hlt : i + k < s.size
    · obtain ⟨c, hc⟩ : ∃ c, bAt s (i + k) = c := ⟨_, rfl⟩
      have h256 : c < 256 := hc ▸ bAt_lt _ _
      have hC : c < 33 → wr.cell? ⟨3, c, none⟩ = some (.int .i64 (if isBl c then 1 else 0)) := fun h => (hf.cell (p := ⟨3, c, none⟩) h3 (by show ¬ (3 = b); omega)).trans (hG c h)
      have hP := Peek_some b s (i + k) wr hr hlt
      rw [hc] at hP
      have HC := Lib.hid hc; clear hc
      have HP := Lib.hid hP; clear hP
      have r1 := hr.c1
      have f1 := hr.f1
      by_cases hB : isBl c = true
      · have hc33 := isBl_lt hB
        have hcell := hC hc33
        rw [if_pos hB] at hcell
        clear hC
        have HB := Lib.hid hB; clear hB
        go_wp2_with (go_at_call 64; refine HP.out.mono ?_; rintro e w' ⟨rfl, n, rfl⟩)
        go_roundw
        case rel => 
          refine ⟨k + 1, by omega, by go_num, ?_, (hr.drewN n).set (i + (k + 1)) (by omega), (hf.drewN n).set1 _ _⟩
          rw [← HE.out]
          conv => rhs; rw [blEnd, if_pos ⟨hlt, by rw [HC.out]; exact HB.out⟩]
          rfl
        case measure => simp [intOf]; omega
      · have hend : blEnd s (i + k) = i + k := by rw [blEnd, if_neg (by rw [HC.out]; exact fun h => hB h.2)]
        have HB := Lib.hid hB
        have hcell : c < 33 → wr.cell? ⟨3, c, none⟩ = some (.int .i64 0) := fun h => by rw [hC h, if_neg HB.out]
        clear hC hB
        have HX := Lib.hid hend; clear hend
        by_cases h33 : c < 33
        · have hc' := hcell h33
          clear hcell
          go_wp2_with (go_at_call 64; refine HP.out.mono ?_; rintro e w' ⟨rfl, n, rfl⟩)
          go_ret
          rw [← HE.out, HX.out]
          exact ⟨by simp, hr.drewN n, hf.drewN n⟩
        · clear hcell
          go_wp2_with (go_at_call 64; refine HP.out.mono ?_; rintro e w' ⟨rfl, n, rfl⟩)
          go_ret
          rw [← HE.out, HX.out]
          exact ⟨by simp, hr.drewN n, hf.drewN n⟩
    · have hP := Peek_end b s (i + k) wr hr hlt
      have HP := Lib.hid hP; clear hP
      have hend : blEnd s (i + k) = i + k := by rw [blEnd, if_neg (fun h => hlt h.1)]
      have HX := Lib.hid hend; clear hend
      go_wp2_with (go_at_call 64; refine HP.out.mono ?_; rintro e w' ⟨rfl, n, rfl⟩)
      go_ret
      rw [← HE.out, HX.out]
      exact ⟨by simp, hr.drewN n, hf.drewN n⟩
theorem blEnd_bd (s : ByteArray) (i : Nat) (h : i ≤ s.size) : i ≤ blEnd s i ∧ blEnd s i ≤ s.size := by
  rw [blEnd]
  split
  · have := blEnd_bd s (i + 1) (by omega); omega
  · omega
termination_by s.size - i

/-- where a gap ends. -/
def gapEnd (s : ByteArray) (i : Nat) : Nat := if blEnd s i < s.size ∧ bAt s (blEnd s i) = 44 then blEnd s (blEnd s i + 1) else blEnd s i
theorem gapEnd_bd (s : ByteArray) (i : Nat) (h : i ≤ s.size) : i ≤ gapEnd s i ∧ gapEnd s i ≤ s.size := by
  have := blEnd_bd s i h
  unfold gapEnd
  split
  · have := blEnd_bd s (blEnd s i + 1) (by omega); omega
  · omega

theorem TabBl.fr {P : Nat → Prop} {w w' : World} (h : TabBl w) (f : Fr P w w') (h3 : 3 < w.heap.size) (hP : ¬ P 3) : TabBl w' := fun j hj => (f.cell (p := ⟨3, j, none⟩) h3 hP).trans (h j hj)
theorem gap1_met (bm bw br : Nat) (u : FrameMode) (w : World) (hm : w.cell? ⟨bm, 0, none⟩ = some (.bool true)) :
    CallsD Tryd.prog 110 #[.pointer (some ⟨bm, 0, none⟩), .pointer (some ⟨bw, 0, none⟩), .pointer (some ⟨br, 0, none⟩)] u w fun e u' w' => u' = u ∧ (e = .returned (.tuple #[]) ∧ w' = w) := by
  go_enter_d Tryd.func110, Tryd.ntmps110
  go_wp2
  go_end0
  exact ⟨rfl, rfl⟩
theorem gap1_not (bm bw br b : Nat) (i : Int) (v : Value) (u : FrameMode) (w : World) (hm : w.cell? ⟨bm, 0, none⟩ = some (.bool false)) (hw : w.cell? ⟨bw, 0, none⟩ = some (.int .i64 i)) (hr : w.cell? ⟨br, 0, none⟩ = some (.pointer (some ⟨b, 0, none⟩)))
    (h1 : w.cell? ⟨b, 1, none⟩ = some v) (f1 : w.frozen? ⟨b, 1, none⟩ = false) :
    CallsD Tryd.prog 110 #[.pointer (some ⟨bm, 0, none⟩), .pointer (some ⟨bw, 0, none⟩), .pointer (some ⟨br, 0, none⟩)] u w fun e u' w' => u' = u ∧ (e = .returned (.tuple #[]) ∧ w' = w.setCell ⟨b, 1, none⟩ (.int .i64 i)) := by
  go_enter_d Tryd.func110, Tryd.ntmps110
  go_wp2
  go_end0
  exact ⟨rfl, rfl⟩

theorem Rd.other {w : World} {b : Nat} {s : ByteArray} {i : Nat} (h : Rd w b s i) {c : Nat} (hc : b ≠ c) (j : Nat) (u : Value) : Rd (w.setCell ⟨c, j, none⟩ u) b s i :=
  ⟨(Below.heap_setCell w ⟨c, j, none⟩ u b hc).trans h.1, h.2⟩

theorem Gap_any (b : Nat) (s : ByteArray) (i : Nat) (w : World) (h : Rd w b s i) (hb : 14 ≤ b) (hG : TabBl w) :
    Calls Tryd.prog 89 #[.pointer (some ⟨b, 0, none⟩)] w fun e w' => e = .returned (.bool (decide (i < gapEnd s i))) ∧ Rd w' b s (gapEnd s i) ∧ Fr (One b) w w' := by
  have h1 := h.c1
  have hlt := h.lt
  have hsz := h.2.2
  have hmf : ∀ (fn : Fn) (first cap : Array Value) (w : World), (Instr.makeFunc fn first cap).run Tryd.prog w = .ok (.func fn first cap) w := fun _ _ _ _ => rfl
  have hgb := gapEnd_bd s i h.2.1
  have hbb := blEnd_bd s i h.2.1
  obtain ⟨E, hE⟩ : ∃ E, blEnd s i = E := ⟨_, rfl⟩
  obtain ⟨G, hGE⟩ : ∃ G, gapEnd s i = G := ⟨_, rfl⟩
  have hG2 : (E < s.size ∧ bAt s E = 44 ∧ G = blEnd s (E + 1)) ∨ (¬ (E < s.size ∧ bAt s E = 44) ∧ G = E) := by
    unfold gapEnd at hGE; rw [hE] at hGE
    split at hGE
    · rename_i h; exact .inl ⟨h.1, h.2, hGE.symm⟩
    · rename_i h; exact .inr ⟨h, hGE.symm⟩
  rw [hE] at hbb
  rw [hGE] at hgb ⊢
  have HE := Lib.hid hE; clear hE
  have HG := Lib.hid hG2; clear hG2 hGE
  go_enter_defers Tryd.func89, Tryd.ntmps89
  go_wp2_with fail
  generalize hW : World.alloc (World.alloc (World.alloc w _) _) _ = W0
  obtain ⟨a0, a1, a2, a3, hf0⟩ := al3 hW
  clear hW
  have hr0 : Rd W0 b s i := h.fr (hf0 No) id
  have g0 : TabBl W0 := hG.fr (hf0 No) (by omega) id
  refine (Blanks_any b s i W0 hr0 hb g0).mono ?_
  rintro e w1 ⟨rfl, hr1, hf1⟩
  rw [HE.out] at hr1
  have b1 : Bx w1 _ _ _ := Bx.fr a1 hf1 (by unfold One; omega)
  have b2 : Bx w1 _ _ _ := Bx.fr a2 hf1 (by unfold One; omega)
  have b3 : Bx w1 _ _ _ := Bx.fr a3 hf1 (by unfold One; omega)
  have g1 : TabBl w1 := g0.fr hf1 (by omega) (by unfold One; omega)
  have hf01 : Fr (One b) w w1 := (hf0 _).trans hf1
  have hs1 := hf1.size
  clear hf1 a1 a2 a3 g0 hr0 hf0
  have c1 := b1.c
  have c2 := b2.c
  have c3 := b3.c
  have d2 := b2.f
  have q1 := hr1.c1
  have k1 := hr1.f1
  rcases HG.out with ⟨hlt2, hc44, hGE⟩ | ⟨hc44, hGE⟩
  · have HP := Lib.hid (Peek_some b s E w1 hr1 hlt2)
    rw [hc44] at HP
    have HX := Lib.hid hGE; clear hGE hc44
    go_wp2_with (go_at_call 64; refine HP.out.mono ?_; rintro e w' ⟨rfl, n, rfl⟩)
    have hr2 := (hr1.drewN n).set (E + 1) (by omega)
    refine (Blanks_any b s (E + 1) _ hr2 hb (g1.fr ((Fr.refl w1).drewN n |>.setCell (P := One b) (p := ⟨b, 1, none⟩) (.inl rfl) _) (by omega) (by unfold One; omega))).mono ?_
    rintro e w2 ⟨rfl, hr3, hf2⟩
    rw [← HX.out] at hr3
    have hf12 : Fr (One b) w1 w2 := (((Fr.refl w1).drewN n).set1 _ _).trans hf2
    have b1' := b1.fr hf12 (by unfold One; omega)
    have b2' := b2.fr hf12 (by unfold One; omega)
    have b3' := b3.fr hf12 (by unfold One; omega)
    have c1' := b1'.c
    have c2' := b2'.c
    have c3' := b3'.c
    have d2' := b2'.f
    have q1' := hr3.c1
    have k1' := hr3.f1
    have hbd := blEnd_bd s (E + 1) (by omega)
    clear c1 c2 c3 d2 q1 k1
    have hiG : i < G := by have := HX.out; omega
    go_wp2_with fail
    go_region
    go_wp2
    have b4 := (b2'.set (.bool true)).c
    refine leaves_cons (f := 110) (by simp) (by simp [go_sem]; rfl) ?_
    refine (gap1_met _ _ _ .returning _ (by exact b4)).mono ?_
    rintro e u' w'' ⟨rfl, rfl, rfl⟩
    refine ⟨_, by simp [results, Tryd.results89, go_sem, b4]; rfl, ?_⟩
    exact ⟨by simp [hiG], (hr3.other (by omega) _ _).drewN 1, (((hf01.trans hf12).setNew (by omega) _ _).drew)⟩
  · obtain ⟨c, ok, HP, hok⟩ : ∃ (c : Nat) (ok : Bool), Hid (Calls Tryd.prog 64 #[.pointer (some ⟨b, 0, none⟩)] w1 fun e w' => e = .returned (.tuple #[.int .u8 c, .bool ok]) ∧ ∃ n, w' = w1.drewN n) ∧ ((ok = true ∧ ((c : Int) == 44) = false) ∨ ok = false) := by
      by_cases hlt2 : E < s.size
      · refine ⟨_, _, Lib.hid (Peek_some b s E w1 hr1 hlt2), .inl ⟨rfl, ?_⟩⟩
        have : ¬ bAt s E = 44 := fun h => hc44 ⟨hlt2, h⟩
        simp; omega
      · exact ⟨0, _, Lib.hid (Peek_end b s E w1 hr1 hlt2), .inr rfl⟩
    have HX := Lib.hid hGE; clear hGE hc44
    rcases hok with ⟨rfl, hk44⟩ | rfl
    all_goals
      have hor : i < E ∨ i = E := by omega
      rcases hor with hiE | hiE
      · go_wp2_with (go_at_call 64; refine HP.out.mono ?_; rintro e w' ⟨rfl, n, rfl⟩)
        go_region
        go_wp2
        have b4 := ((b2.drewN (n + 1)).set (.bool true)).c
        refine leaves_cons (f := 110) (by simp) (by simp [go_sem]; rfl) ?_
        refine (gap1_met _ _ _ .returning _ (by exact b4)).mono ?_
        rintro e u' w'' ⟨rfl, rfl, rfl⟩
        refine ⟨_, by simp [results, Tryd.results89, go_sem, b4]; rfl, ?_⟩
        rw [HX.out]
        exact ⟨by simp [hiE], ((hr1.drewN (n + 1)).other (by omega) _ _), (((hf01.drewN (n + 1)).setNew (by omega) _ _))⟩
      · subst hiE
        go_wp2_with (go_at_call 64; refine HP.out.mono ?_; rintro e w' ⟨rfl, n, rfl⟩)
        go_region
        go_wp2
        have b4 := ((b2.drewN (n + 1)).set (.bool false))
        have b3' := (b3.drewN (n + 1)).other (c := w.heap.size + 1) (by omega) 0 (.bool false)
        have b1' := (b1.drewN (n + 1)).other (c := w.heap.size + 1) (by omega) 0 (.bool false)
        have hr2 := (hr1.drewN (n + 1)).other (c := w.heap.size + 1) (by omega) 0 (.bool false)
        refine leaves_cons (f := 110) (by simp) (by simp [go_sem]; rfl) ?_
        refine (gap1_not _ _ _ b i _ .returning _ (by exact b4.c) (by exact b3'.c) (by exact b1'.c) (by exact hr2.c1) (by exact hr2.f1)).mono ?_
        rintro e u' w'' ⟨rfl, rfl, rfl⟩
        have b5 := (b4.other (c := b) (by omega) 1 (.int .i64 i)).c
        refine ⟨_, by simp [results, Tryd.results89, go_sem, b5]; rfl, ?_⟩
        rw [HX.out]
        exact ⟨by simp, hr2.set i (by omega), ((((hf01.drewN (n + 1)).setNew (by omega) _ _)).set1 _ _)⟩

/-- a flag. -/
theorem Flag_bad (b : Nat) (s : ByteArray) (i : Nat) (w : World) (h : Rd w b s i) (hi : ¬ (i < s.size ∧ (bAt s i = 48 ∨ bAt s i = 49))) :
    Calls Tryd.prog 111 #[.pointer (some ⟨b, 0, none⟩)] w fun e w' => e = .returned (.tuple #[.int .i64 0, .int .i64 3]) ∧ ∃ n, w' = w.drewN n := by
  obtain ⟨c, ok, HP, hok⟩ : ∃ (c : Nat) (ok : Bool), Hid (Calls Tryd.prog 64 #[.pointer (some ⟨b, 0, none⟩)] w fun e w' => e = .returned (.tuple #[.int .u8 c, .bool ok]) ∧ ∃ n, w' = w.drewN n) ∧ ((ok = true ∧ ((c : Int) != 48) = true ∧ ((c : Int) != 49) = true) ∨ ok = false) := by
    by_cases hlt2 : i < s.size
    · refine ⟨_, _, Lib.hid (Peek_some b s i w h hlt2), .inl ⟨rfl, ?_, ?_⟩⟩
      · simp only [bne_iff_ne]; omega
      · simp only [bne_iff_ne]; omega
    · exact ⟨0, _, Lib.hid (Peek_end b s i w h hlt2), .inr rfl⟩
  clear hi
  rcases hok with ⟨rfl, h1, h2⟩ | rfl
  all_goals
    go_enter Tryd.func111, Tryd.ntmps111
    go_wp2_with (go_at_call 64; refine HP.out.mono ?_; rintro e w' ⟨rfl, n, rfl⟩)
    go_ret2
    exact ⟨rfl, _, rfl⟩
theorem Flag_ok (b : Nat) (s : ByteArray) (i : Nat) (w : World) (h : Rd w b s i) (hi : i < s.size) (hc : bAt s i = 48 ∨ bAt s i = 49) :
    Calls Tryd.prog 111 #[.pointer (some ⟨b, 0, none⟩)] w fun e w' => e = .returned (.tuple #[.int .i64 (bAt s i - 48 : Nat), .int .i64 0]) ∧ Rd w' b s (i + 1) ∧ Fr (One b) w w' := by
  have HP := Lib.hid (Peek_some b s i w h hi)
  have c1 := h.c1
  have f1 := h.f1
  have hs := h.2.2
  rcases hc with hc | hc
  all_goals
    rw [hc] at HP ⊢
    clear hc
    go_enter Tryd.func111, Tryd.ntmps111
    go_wp2_with (go_at_call 64; refine HP.out.mono ?_; rintro e w' ⟨rfl, n, rfl⟩)
    go_ret2
    exact ⟨rfl, (h.drewN n).set (i + 1) (by omega), ((Fr.refl w).drewN n).set1 _ _⟩
end Go.Proofs.YtchgjjegcoiepaaDoor
