import Derived.Test.YtchgjjegcoiepaaDoorFmt
namespace Go.Proofs.YtchgjjegcoiepaaDoor
open Go.RowKit

def scl (S : ByteArray) (k : Nat) (v : Int) : Int := if bAt S k = 103 ∨ bAt S k = 102 then v * 65536 else v
def argsB (S : ByteArray) : Nat → List Int → List UInt8
  | _, [] => []
  | k, v :: r => 32 :: prL (scl S k v) ++ argsB S (k + 1) r
def sgOf (L : Nat) : ByteArray := match ofF L with | some (_, A) => A | none => ⟨#[]⟩
def cmdB (c : Cmd) : List UInt8 := UInt8.ofNat c.L :: argsB (sgOf c.L) 0 c.A
def prntL (l : List Cmd) : List UInt8 := l.flatMap cmdB
def mayP (l : List Cmd) : Bool := decide (∀ j, (h : j < l.length) → rightP l[j].L l[j].A = true ∧ (j = 0 → capF l[j].L = 77))
def printF (l : List Cmd) : List UInt8 × Bool := if mayP l then (prntL l, true) else ([], false)

theorem argsB_snoc (S : ByteArray) : ∀ (xs : List Int) (k : Nat) (v : Int), argsB S k (xs ++ [v]) = argsB S k xs ++ (32 :: prL (scl S (k + xs.length) v))
  | [], k, v => by simp [argsB]
  | x :: r, k, v => by simp [argsB, argsB_snoc S r (k + 1) v]; rw [show k + 1 + r.length = k + (r.length + 1) from by omega]
theorem prntL_snoc (l : List Cmd) (c : Cmd) : prntL (l ++ [c]) = prntL l ++ cmdB c := by simp [prntL]
theorem frac_length : ∀ n r, (frac n r).length ≤ n
  | 0, _ => by simp [frac]
  | n + 1, r => by
    unfold frac
    split
    · simp
    · have := frac_length n (r * 10 % 65536); simp; omega
theorem prL_length (v : Int) (h1 : -9223372036854775808 ≤ v) (h2 : v ≤ 9223372036854775807) : (prL v).length ≤ 38 := by
  unfold prL
  have e1 := Lib.nDigits_le20 (v.natAbs / 65536) (by omega)
  have e2 := frac_length 16 (v.natAbs % 65536)
  rw [List.length_append, List.length_append, Lib.decDigits_length]
  split <;> split <;> simp <;> omega

/-- what the right arguments leave of a number to print. -/
theorem scl_bd {S : ByteArray} {k : Nat} {v : Int} (h : argP (bAt S k) v = true) : -9223372036854775808 ≤ scl S k v ∧ scl S k v ≤ 9223372036854775807 := by
  unfold argP at h
  rw [decide_eq_true_iff] at h
  unfold scl
  split
  · rename_i hk
    have := h.2.2.2 hk
    omega
  · omega
theorem argsB_length (S : ByteArray) : ∀ (xs : List Int) (k : Nat), (∀ j, (h : j < xs.length) → argP (bAt S (k + j)) xs[j] = true) → (argsB S k xs).length ≤ 39 * xs.length
  | [], _, _ => by simp [argsB]
  | v :: r, k, h => by
    have h0 := h 0 (by simp)
    simp only [Nat.add_zero, List.getElem_cons_zero] at h0
    have hb := scl_bd h0
    have e1 := prL_length _ hb.1 hb.2
    have e2 := argsB_length S r (k + 1) (fun j hj => by
      have := h (j + 1) (by simpa using hj)
      rwa [show k + (j + 1) = k + 1 + j from by omega] at this)
    simp [argsB]
    omega
theorem right_parts {L : Nat} {xs : List Int} (h : rightP L xs = true) : ∃ L' S, ofF L = some (L', S) ∧ sgOf L = S ∧ xs.length = S.size ∧ S.size ≤ 7 ∧ ∀ j, (h : j < xs.length) → argP (bAt S j) xs[j] = true := by
  unfold rightP at h
  cases hO : ofF L with
  | none => rw [hO] at h; cases h
  | some p =>
    obtain ⟨L', S⟩ := p
    rw [hO] at h
    dsimp only at h
    rw [decide_eq_true_iff] at h
    exact ⟨L', S, rfl, by unfold sgOf; rw [hO], h.1, ofF_size' hO, h.2⟩
theorem cmdB_length {c : Cmd} (h : rightP c.L c.A = true) : (cmdB c).length ≤ 300 := by
  obtain ⟨L', S, _, e, h1, h2, h3⟩ := right_parts h
  have := argsB_length S c.A 0 (fun j hj => by rw [Nat.zero_add]; exact h3 j hj)
  unfold cmdB
  rw [e]
  simp
  omega

theorem BPtrans {B b : Nat} {a m c : World} (h : Fr (BP B b a) a m) (k : Fr (BP B b m) m c) : Fr (BP B b a) a c :=
  h.then k (fun i hi q => by
    rcases q with q | ⟨q1, q2⟩
    · exact .inl q
    · by_cases hP : BP B b a i
      · exact hP
      · obtain ⟨x, y, e⟩ := q2
        exact .inr ⟨q1, x, y, (h.block i hi hP).symm.trans e⟩)

theorem TabP.fr {P : Nat → Prop} {w w' : World} (h : TabP w) (f : Fr P w w') (hP : ∀ k, k < 14 → ¬ P k) : TabP w' := by
  unfold TabP Lib.TabIs World.var? at *
  have hg : Tryd.prog.globalNamed "internal/strconv.uint64pow10" = some 5 := by kernel_rfl
  rw [hg] at h ⊢
  simp only [Option.bind_some] at h ⊢
  have hlt : 5 < w.heap.size := by
    rcases Nat.lt_or_ge 5 w.heap.size with h' | h'
    · exact h'
    · rw [Array.getElem?_eq_none h'] at h; simp at h
  rw [f.block 5 hlt (hP 5 (by omega))]
  exact h

theorem byteCells_append (a b : List UInt8) : Lib.byteCells (a ++ b) = Lib.byteCells a ++ Lib.byteCells b := by simp [Lib.byteCells]

theorem byteCells_length' (l : List UInt8) : (Lib.byteCells l).length = l.length := by simp [Lib.byteCells]
theorem bty {B b : Nat} {bs : List Value} {w : World} (h : Lib.IsBuilder 64 5 B b bs w) : Ty w b 64 := by
  rcases h with ⟨_, v, hb, _⟩ | ⟨_, v, hb, _⟩ <;> exact ⟨_, _, hb⟩
theorem bltw {B b : Nat} {bs : List Value} {w : World} (h : Lib.IsBuilder 64 5 B b bs w) : b < w.heap.size := (bty h).lt

theorem bc1 (L : Nat) (h : L < 256) : [(.int .u8 (L : Int) : Value)] = Lib.byteCells [UInt8.ofNat L] := by
  simp [Lib.byteCells, Nat.mod_eq_of_lt h]
theorem SlIa.parts {w : World} {A : Option Addr} {n cap : Nat} {xs : List Int} (h : SlIa w (.slice A n cap) xs) (h0 : 0 < xs.length) : ∃ g off, A = some ⟨g, off, none⟩ ∧ Bk w g ∧ ∀ j (h : j < xs.length), w.cell? ⟨g, off + j, none⟩ = some (.int .i64 xs[j]) := by
  obtain ⟨A', cap', e, hh⟩ := h
  injection e with e1 _ _
  subst e1
  exact hh h0

def PrintPost (w : World) (r : List UInt8 × Bool) (e : Ending) (w' : World) : Prop := e = .returned (.tuple #[.string ⟨r.1.toArray⟩, .bool r.2]) ∧ Fr No w w'

/-- how far the printing is. -/
structure PI (w : World) (l : List Cmd) (i : Nat) (wx : World) : Prop where
  le : i ≤ l.length
  ok : ∀ j, (h : j < l.length) → j < i → rightP l[j].L l[j].A = true ∧ (j = 0 → capF l[j].L = 77)
  len : (prntL (l.take i)).length ≤ 300 * i
  b : Lib.IsBuilder 64 5 w.heap.size w.heap.size (Lib.byteCells (prntL (l.take i))) wx
  fr : Fr No w wx

set_option maxRecDepth 100000 in
set_option maxHeartbeats 4000000 in
theorem PathPrint_any (l : List Cmd) (lv : Value) (w : World) (h : SlCa w lv l) (hL : ∀ c ∈ l, c.L < 256) (hl : l.length ≤ 1000) (hT : TabSg w) (hP : TabP w) (hw : 14 ≤ w.heap.size) :
    Calls Tryd.prog 11 #[lv] w (PrintPost w (printF l)) := by
  obtain ⟨A, cap, rfl, hs⟩ := h
  obtain ⟨R, hR⟩ : ∃ R, printF l = R := ⟨_, rfl⟩
  rw [hR]
  have HR := Lib.hid hR
  have HT := Lib.hid hT
  have HP := Lib.hid hP
  clear hR hT hP
  go_enter Tryd.func11, Tryd.ntmps11
  go_wp2_with fail
  go_loopg [5, 6, 7, 8, 9, 10, 13] l.length (fun gk u5 u6 u7 u8 u9 u10 u13 wx => ∃ i : Nat, u13 = .int .i64 i ∧ PI w l i wx ∧ gk = l.length - i)
  case atStart =>
    refine ⟨0, rfl, ⟨by omega, by omega, by simp [prntL], ?_, ?_⟩, rfl⟩
    · exact Lib.fresh_isBuilder 64 5 w
    · exact (Fr.refl w).alloc _
  case round =>
    obtain ⟨i, rfl, hPI, rfl⟩ := hrel
    obtain ⟨wo, rfl⟩ : ∃ wo : World, wo = wr := ⟨_, rfl⟩
    by_cases hlt : i < l.length
    · obtain ⟨g, off, rfl, ht, hc⟩ := hs (by omega)
      obtain ⟨c1, av, c2, hav⟩ := hc i hlt
      have r1 : wo.cell? ⟨g, off + i * 2, none⟩ = _ := (hPI.fr.cell (p := ⟨g, off + i * 2, none⟩) ht.lt id).trans c1
      have r2 : wo.cell? ⟨g, off + i * 2 + 1, none⟩ = _ := (hPI.fr.cell (p := ⟨g, off + i * 2 + 1, none⟩) ht.lt id).trans c2
      have hav' := hav.fr hPI.fr (fun k _ => id)
      have havw := hav
      have hL256 := hL l[i] (List.getElem_mem hlt)
      obtain ⟨L, hLL⟩ : ∃ L, l[i].L = L := ⟨_, rfl⟩
      obtain ⟨xs, hxs⟩ : ∃ xs, l[i].A = xs := ⟨_, rfl⟩
      rw [hLL] at r1 hL256
      rw [hxs] at hav' havw
      clear hc c1 c2 hav
      have HLL := Lib.hid hLL
      have HXS := Lib.hid hxs
      clear hLL hxs
      obtain ⟨A2, cap2, rfl, _⟩ := id hav'
      go_upto_region 5 with fail
      generalize hW : World.alloc wo _ = W0
      obtain ⟨a0, a1, hF⟩ := al1 hW
      clear hW
      have f0 := hPI.fr.trans (hF No)
      have hav0 := hav'.fr (hF No) (fun k _ => id)
      have hb0 := bfr hPI.b (hF No) (fun k t _ _ => id)
      have hw0 : 14 ≤ W0.heap.size := by have := f0.size; omega
      have HRt := Lib.hid (RightP_any L _ xs W0 hav0 hL256 (HT.out.fr f0 (by omega) id) hw0)
      have HCp := Lib.hid (fun w => capital_any L w hL256)
      have q0 := cell_of_block a1 0
      have q1 := cell_of_block a1 1
      simp only [List.getElem?_toArray, List.getElem?_cons_zero, List.getElem?_cons_succ] at q0 q1
      obtain ⟨C, hC⟩ : ∃ C, capF L = C := ⟨_, rfl⟩
      rw [hC] at HCp
      have HC := Lib.hid hC
      clear hC
      cases hrt : rightP L xs with
      | false =>
        rw [hrt] at HRt
        have HBAD : Hid (R = ([], false)) := by
          unfold Hid
          rw [← HR.out, printF, if_neg]
          simp only [mayP, decide_eq_true_iff]
          intro hh
          have := (hh i hlt).1
          rw [HLL.out, HXS.out, hrt] at this
          cases this
        go_wp2_with (go_at_call 25; refine HRt.out.mono ?_; rintro e w1 ⟨rfl, f1⟩)
        go_ret2
        rw [HBAD.out]
        exact ⟨rfl, f0.trans f1⟩
      | true =>
        rw [hrt] at HRt
        by_cases hbad : i = 0 ∧ C ≠ 77
        · have HBAD : Hid (R = ([], false)) := by
            unfold Hid
            rw [← HR.out, printF, if_neg]
            simp only [mayP, decide_eq_true_iff]
            intro hh
            have := (hh i hlt).2 hbad.1
            rw [HLL.out, HC.out] at this
            exact hbad.2 this
          obtain ⟨rfl, h77⟩ := hbad
          have h77b : ((C : Int) != 77) = true := by simp; omega
          clear h77
          go_wp2_with (first | (go_at_call 25; refine HRt.out.mono ?_; rintro e w1 ⟨rfl, f1⟩; have q0' : w1.cell? ⟨wo.heap.size, 0, none⟩ = _ := (f1.cell (p := ⟨wo.heap.size, 0, none⟩) (lt_of_block a1) id).trans q0) | (go_at_call 26; refine (HCp.out _).mono ?_; rintro e w2 ⟨rfl, rfl⟩))
          go_ret2
          rw [HBAD.out]
          exact ⟨rfl, f0.trans f1⟩
        · have hok : ((i : Int) == 0) = false ∨ (((i : Int) == 0) = true ∧ ((C : Int) != 77) = false) := by
            by_cases h : i = 0
            · refine .inr ⟨by simp [h], ?_⟩
              have : C = 77 := Decidable.byContradiction fun h' => hbad ⟨h, h'⟩
              simp [this]
            · exact .inl (by simp; omega)
          have HOK : Hid (i = 0 → C = 77) := fun h => Decidable.byContradiction fun h' => hbad ⟨h, h'⟩
          clear hbad
          have hgo : ∀ (K : World → Prop), K W0 → K W0 := fun _ h => h
          rcases hok with h0 | ⟨h0, h77⟩
          all_goals
            go_upto_region 7 with (first | (go_at_call 25; refine HRt.out.mono ?_; rintro e w1 ⟨rfl, f1⟩; have q0' : w1.cell? ⟨wo.heap.size, 0, none⟩ = _ := (f1.cell (p := ⟨wo.heap.size, 0, none⟩) (lt_of_block a1) id).trans q0) | (go_at_call 26; refine (HCp.out _).mono ?_; rintro e w2 ⟨rfl, rfl⟩))
            have hbo := bltw hPI.b
            have f01 := f0.trans f1
            have b1 := bfr hb0 f1 (fun k t _ _ => id)
            have hs1 := f1.size
            have hbx : w1.heap[wo.heap.size]? = _ := (f1.block wo.heap.size (lt_of_block a1) id).trans a1
            have hlen0 := hPI.len
            have hle := hPI.le
            have HWB := Lib.hid (WriteByte_any w.heap.size w.heap.size _ (L : Int) w1 b1 (by rw [byteCells_length']; omega) (by omega))
            go_upto_region 8 with (go_at_call 27; refine HWB.out.mono ?_; rintro e w2 ⟨rfl, b2, f2⟩)
            have n60 : ¬ BP w.heap.size w.heap.size w1 wo.heap.size := by
              rintro (q | ⟨_, q⟩)
              · omega
              · exact absurd (q.ne ⟨_, _, hbx⟩) (by decide)
            have hbx2 : w2.heap[wo.heap.size]? = _ := (f2.block wo.heap.size (lt_of_block hbx) n60).trans hbx
            have f02 : Fr No w w2 := f01.then f2 (fun k hk q => by rcases q with q | ⟨q, _⟩ <;> omega)
            obtain ⟨L', S, hOf, hSg, hxl, hS7, hargs⟩ := right_parts hrt
            have HOf := Lib.hid (of_any L w2 (by have := f02.size; omega) hL256 (HT.out.fr f02 (by omega) id))
            unfold OfPost at HOf
            rw [hOf] at HOf
            dsimp only at HOf
            have p0 := cell_of_block hbx2 0
            have p1 := cell_of_block hbx2 1
            simp only [List.getElem?_toArray, List.getElem?_cons_zero, List.getElem?_cons_succ] at p0 p1
            have hlt2 := lt_of_block hbx2
            have HXL := Lib.hid hxl
            clear hxl
            go_upto_region 9 with (go_at_call 28; refine HOf.out.mono ?_; rintro e w3 ⟨rfl, f3⟩)
            generalize hW4 : World.alloc w3 _ = W4
            obtain ⟨e0, e1, hF4⟩ := al1 hW4
            clear hW4
            have b4 := bfr (bfr b2 f3 (fun k t _ _ => id)) (hF4 No) (fun k t _ _ => id)
            have hbx4 : W4.heap[wo.heap.size]? = _ := ((hF4 No).block wo.heap.size (by have := f3.size; omega) id).trans ((f3.block wo.heap.size hlt2 id).trans hbx2)
            have f04 : Fr No w W4 := (f02.trans f3).trans (hF4 No)
            have t1 := cell_of_block hbx4 1
            simp only [List.getElem?_toArray, List.getElem?_cons_zero, List.getElem?_cons_succ] at t1
            rw [bc1 L hL256, ← byteCells_append] at b4
            obtain ⟨X, hX⟩ : ∃ X, prntL (List.take i l) = X := ⟨_, rfl⟩
            rw [hX] at b4 hlen0
            have HX := Lib.hid hX
            have hbw : w.heap.size < W4.heap.size := by have := f04.size; have := f3.size; omega
            have hss : w3.heap.size ≠ w.heap.size := by have := f02.size; have := f3.size; have := f01.size; have := hs1; omega
            clear hX r1 r2 q0 q1 q0' p0 p1 HRt HWB HOf b1 b2 hb0 hav0 hav' hbx hbx2 n60 a0 a1 HCp hs f1 f2 f3 f01 f02 hF hF4
            go_wp2_with fail
            go_loopg [9, 10, 43] xs.length (fun gk u9 u10 u43 wx => ∃ k : Nat, u43 = .int .i64 k ∧ k ≤ xs.length ∧ Lib.IsBuilder 64 5 w.heap.size w.heap.size (Lib.byteCells (X ++ (UInt8.ofNat L :: argsB S 0 (xs.take k)))) wx ∧ Fr (BP w.heap.size w.heap.size W4) W4 wx ∧ gk = xs.length - k)
            case atStart => exact ⟨0, rfl, by omega, b4, Fr.refl W4, rfl⟩
            case round =>
              obtain ⟨k, rfl, hk, b5, f5, rfl⟩ := hrel
              by_cases hkl : k < xs.length
              · obtain ⟨g2, off2, rfl, ht2, hc2⟩ := havw.parts (by omega)
                have n71 : ¬ BP w.heap.size w.heap.size W4 w3.heap.size := by
                  rintro (q | ⟨_, q⟩)
                  · exact hss q
                  · exact absurd (q.ne ⟨_, _, e1⟩) (by decide)
                have rc : wr.cell? ⟨g2, off2 + k, none⟩ = _ := ((f04.then f5 (fun k hk q => by rcases q with q | ⟨q, _⟩ <;> omega) : Fr No w wr).cell (p := ⟨g2, off2 + k, none⟩) ht2.lt id).trans (hc2 k hkl)
                have hsb : wr.heap[w3.heap.size]? = _ := (f5.block w3.heap.size (lt_of_block e1) n71).trans e1
                have hak := hargs k hkl
                obtain ⟨x, hx⟩ : ∃ x, xs[k] = x := ⟨_, rfl⟩
                rw [hx] at rc hak
                have HXX := Lib.hid hx
                have hkS : k < S.size := by have := HXL.out; omega
                obtain ⟨c, hc⟩ : ∃ c, bAt S k = c := ⟨_, rfl⟩
                have hcc : S[k].toNat = c := (bAt_eq S k hkS).trans hc
                have hc256 : c < 256 := hc ▸ bAt_lt S k
                have hsb2 := scl_bd hak
                have hlenk : (X ++ (UInt8.ofNat L :: argsB S 0 (xs.take k))).length ≤ 300 * i + 1 + 39 * k := by
                  have := argsB_length S (xs.take k) 0 (fun j hj => by
                    rw [Nat.zero_add, List.getElem_take]
                    exact hargs j (by rw [List.length_take] at hj; omega))
                  rw [List.length_take, Nat.min_eq_left (by omega)] at this
                  rw [List.length_append, List.length_cons]
                  omega
                obtain ⟨Y, hY⟩ : ∃ Y, X ++ (UInt8.ofNat L :: argsB S 0 (xs.take k)) = Y := ⟨_, rfl⟩
                rw [hY] at b5 hlenk
                obtain ⟨y, hy⟩ : ∃ y, scl S k x = y := ⟨_, rfl⟩
                rw [hy] at hsb2
                have hk7 : k ≤ 7 := by have := HXL.out; omega
                have HY := Lib.hid hY
                have HYY := Lib.hid hy
                have hmul : (((c : Int) == 103) = true ∧ IntKind.i64.wrap (x * 65536) = y) ∨ (((c : Int) == 103) = false ∧ ((c : Int) == 102) = true ∧ IntKind.i64.wrap (x * 65536) = y) ∨ (((c : Int) == 103) = false ∧ ((c : Int) == 102) = false ∧ x = y) := by
                  unfold scl at hy
                  rw [hc] at hy
                  by_cases h3 : c = 103
                  · rw [if_pos (.inl h3)] at hy
                    exact .inl ⟨by simp [h3], by rw [IntKind.wrap_i64]; omega⟩
                  · by_cases h2 : c = 102
                    · rw [if_pos (.inr h2)] at hy
                      exact .inr (.inl ⟨by simp; omega, by simp [h2], by rw [IntKind.wrap_i64]; omega⟩)
                    · rw [if_neg (by omega)] at hy
                      exact .inr (.inr ⟨by simp; omega, by simp; omega, hy⟩)
                have hws5 := f5.size
                have HWB := Lib.hid (WriteByte_any w.heap.size w.heap.size _ 32 wr b5 (by rw [byteCells_length']; omega) (by omega))
                have hyl := prL_length y hsb2.1 hsb2.2
                have HY38 := Lib.hid hyl
                have HL := Lib.hid hlenk
                have HSB := Lib.hid hsb2
                clear hx hc hY hy hyl hlenk hsb2 hak
                have HFIN : ∀ (wz : World), Lib.IsBuilder 64 5 w.heap.size w.heap.size (Lib.byteCells Y ++ [(.int .u8 32 : Value)] ++ Lib.strCells (prF y)) wz → Lib.IsBuilder 64 5 w.heap.size w.heap.size (Lib.byteCells (X ++ (UInt8.ofNat L :: argsB S 0 (xs.take (k + 1))))) wz := by
                  intro wz hz
                  rw [List.take_succ_eq_append_getElem hkl, argsB_snoc, HXX.out, List.length_take, Nat.min_eq_left (by omega), Nat.zero_add, HYY.out, ← List.cons_append, ← List.append_assoc, HY.out, byteCells_append]
                  exact (by rw [List.append_assoc] at hz; exact hz)
                have HFIN := Lib.hid HFIN
                rcases hmul with ⟨h1, h2⟩ | ⟨h1, h2, h3⟩ | ⟨h1, h2, rfl⟩
                all_goals
                  go_upto_region 13 with (go_at_call 27; refine HWB.out.mono ?_; rintro e w6 ⟨rfl, b6, f6⟩)
                  have n71' : ¬ BP w.heap.size w.heap.size wr w3.heap.size := by
                    rintro (q | ⟨_, q⟩)
                    · exact hss q
                    · exact absurd (q.ne ⟨_, _, hsb⟩) (by decide)
                  have hsb6 : w6.heap[w3.heap.size]? = _ := (f6.block w3.heap.size (lt_of_block hsb) n71').trans hsb
                  have z1 := cell_of_block hsb6 1
                  simp only [List.getElem?_toArray, List.getElem?_cons_zero, List.getElem?_cons_succ] at z1
                  have f46 := BPtrans f5 f6
                  have f06 : Fr No w w6 := f04.then f46 (fun k hk q => by rcases q with q | ⟨q, _⟩ <;> omega)
                  have HPr := Lib.hid (Print_any _ HSB.out.1 HSB.out.2 w6 (HP.out.fr f06 (fun _ _ => id)))
                  go_upto_region 15 with fail
                  go_wp2_with (first | (go_at_call 30; refine HPr.out.mono ?_; rintro e w7 ⟨rfl, f7⟩; have b7 := bfr b6 f7 (fun k t _ _ => id); have hs7 : w.heap.size ≤ w7.heap.size := (f06.trans f7).size) | (go_at_call 29; refine (WriteString_any w.heap.size w.heap.size _ _ w7 b7 (by have := HL.out; have := HY38.out; rw [List.length_append, byteCells_length']; show _ + (prL _).toArray.size ≤ _; rw [List.size_toArray, List.length_singleton]; omega) hs7).mono ?_; rintro e w8 ⟨rfl, b8, f8⟩))
                  go_roundg (xs.length - (k + 1))
                  case measure => omega
                  case rel =>
                    exact ⟨k + 1, by go_num, by omega, HFIN.out _ b8, BPtrans (BPtrans f46 (f7.mono (fun _ _ h => h.elim))) f8, rfl⟩
              · obtain rfl : k = xs.length := by omega
                go_wp2
                rw [List.take_length] at b5
                have hgi : l[i] = ⟨L, xs⟩ := by rw [← HLL.out, ← HXS.out]
                have hsn : prntL (l.take (i + 1)) = X ++ (UInt8.ofNat L :: argsB S 0 xs) := by
                  rw [List.take_succ_eq_append_getElem hlt, prntL_snoc, HX.out, hgi]
                  simp only [cmdB, hSg]
                have hcl : (cmdB ⟨L, xs⟩).length ≤ 300 := cmdB_length (c := ⟨L, xs⟩) hrt
                simp only [cmdB, hSg] at hcl
                go_roundg (l.length - (i + 1))
                case measure => omega
                case rel =>
                  refine ⟨i + 1, by go_num, ⟨by omega, ?_, ?_, ?_, ?_⟩, rfl⟩
                  · intro j h hj
                    by_cases hji : j = i
                    · subst hji
                      rw [hgi]
                      exact ⟨hrt, fun h => by rw [HC.out]; exact HOK.out h⟩
                    · exact hPI.ok j h (by omega)
                  · rw [hsn, List.length_append]; omega
                  · rw [hsn]; exact b5
                  · exact f04.then f5 (fun k hk q => by rcases q with q | ⟨q, _⟩ <;> omega)
    · obtain rfl : i = l.length := by have := hPI.le; omega
      have HGOOD : Hid (R = (prntL l, true)) := by
        unfold Hid
        rw [← HR.out, printF, if_pos]
        simp only [mayP, decide_eq_true_iff]
        exact fun j h => hPI.ok j h h
      have hbl := hPI.b
      rw [List.take_length] at hbl
      have hf := hPI.fr
      have HS := Lib.hid (Tryd.Builder_String_any w.heap.size w.heap.size _ wo hbl hf.size)
      clear hbl
      go_wp2_with (go_at_call 31; refine HS.out.mono ?_; rintro e w1 ⟨rfl, f1⟩)
      go_ret2
      rw [HGOOD.out]
      exact ⟨rfl, hf.below f1 (Nat.le_refl _)⟩
end Go.Proofs.YtchgjjegcoiepaaDoor
