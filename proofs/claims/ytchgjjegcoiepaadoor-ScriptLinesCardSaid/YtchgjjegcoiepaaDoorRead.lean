import Derived.Test.YtchgjjegcoiepaaDoorDec
import Derived.Test.YtchgjjegcoiepaaDoorOwn
import Derived.Deep.LoopGhost
namespace Go.Proofs.YtchgjjegcoiepaaDoor
open Go.RowKit

theorem info5 : (Tryd.prog.info? 5).map (fun i => (i.zero, i.size, i.bytes)) = some (some (.int .u8 0), 1, 1) := by kernel_rfl

/-- digits as cells. -/
def u8s (l : List Nat) : List Value := l.map fun (n : Nat) => Value.int .u8 (n : Int)
theorem u8s_length (l : List Nat) : (u8s l).length = l.length := by simp [u8s]
theorem u8s_snoc (l : List Nat) (n : Nat) : u8s (l ++ [n]) = u8s l ++ [.int .u8 n] := by simp [u8s]

/-- a number on its way: below 0?, its digits, where the point stands. -/
structure Dn where
  below : Bool
  ds : List Nat
  pt : Int

/-- the exponent's digits. -/
def pwGo (s : ByteArray) (i p : Nat) : Nat := if i < s.size then pwGo s (i + 1) (min (10 * p + (bAt s i - 48)) 1099511627776) else p
termination_by s.size - i

/-- the digit c is met. -/
def digIn (seen : Bool) (c : Nat) (d : Dn) : Dn :=
  let ds := if c ≠ 48 ∨ d.ds ≠ [] then d.ds ++ [c - 48] else d.ds
  ⟨d.below, ds, if seen then (if ds = [] then d.pt - 1 else d.pt) else (if ds = [] then d.pt else d.pt + 1)⟩

/-- a text that is a number's: its digits, and its power. -/
def rdGo (s : ByteArray) (i : Nat) (seen : Bool) (d : Dn) (down : Bool) (pw : Nat) : Dn × Bool × Nat :=
  if i < s.size then
    if kd (bAt s i) = 0 then rdGo s (i + 1) seen (digIn seen (bAt s i) d) down pw
    else if kd (bAt s i) = 1 then rdGo s (i + 1) true d down pw
    else if kd (bAt s i) = 3 then rdGo s (i + 1) seen { d with below := bAt s i == 45 } down pw
    else if kd (bAt s i) = 2 then
      if kd (bAt s (i + 1)) = 3 then (d, bAt s (i + 1) == 45, pwGo s (i + 2) pw) else (d, down, pwGo s (i + 1) pw)
    else rdGo s (i + 1) seen d down pw
  else (d, down, pw)
termination_by s.size - i

/-- the struct in its block. -/
def NbX (w : World) (b : Nat) (bl : Bool) (sv : Value) (pt : Int) : Prop := w.heap[b]? = some (.cells #[.bool bl, sv, .int .i64 pt] 169 (0, 0))
theorem NbX.c0 {w : World} {b : Nat} {bl : Bool} {sv : Value} {pt : Int} (h : NbX w b bl sv pt) : w.cell? ⟨b, 0, none⟩ = some (.bool bl) := by rw [cell_of_block h]; rfl
theorem NbX.c1 {w : World} {b : Nat} {bl : Bool} {sv : Value} {pt : Int} (h : NbX w b bl sv pt) : w.cell? ⟨b, 1, none⟩ = some sv := by rw [cell_of_block h]; rfl
theorem NbX.c2 {w : World} {b : Nat} {bl : Bool} {sv : Value} {pt : Int} (h : NbX w b bl sv pt) : w.cell? ⟨b, 2, none⟩ = some (.int .i64 pt) := by rw [cell_of_block h]; rfl
theorem NbX.f0 {w : World} {b : Nat} {bl : Bool} {sv : Value} {pt : Int} (h : NbX w b bl sv pt) (j : Nat) : w.frozen? ⟨b, j, none⟩ = false := free_of_block h j
theorem NbX.s0 {w : World} {b : Nat} {bl : Bool} {sv : Value} {pt : Int} (h : NbX w b bl sv pt) (x : Bool) : NbX (w.setCell ⟨b, 0, none⟩ (.bool x)) b x sv pt := by unfold NbX; rw [setCell_block h]; rfl
theorem NbX.s1 {w : World} {b : Nat} {bl : Bool} {sv : Value} {pt : Int} (h : NbX w b bl sv pt) (x : Value) : NbX (w.setCell ⟨b, 1, none⟩ x) b bl x pt := by unfold NbX; rw [setCell_block h]; rfl
theorem NbX.s2 {w : World} {b : Nat} {bl : Bool} {sv : Value} {pt : Int} (h : NbX w b bl sv pt) (x : Int) : NbX (w.setCell ⟨b, 2, none⟩ (.int .i64 x)) b bl sv x := by unfold NbX; rw [setCell_block h]; rfl
theorem NbX.fr {P : Nat → Prop} {w w' : World} {b : Nat} {bl : Bool} {sv : Value} {pt : Int} (h : NbX w b bl sv pt) (f : Fr P w w') (hb : ¬ P b) : NbX w' b bl sv pt := (f.block b (lt_of_block h) hb).trans h
theorem NbX.other {w : World} {b : Nat} {bl : Bool} {sv : Value} {pt : Int} (h : NbX w b bl sv pt) {c : Nat} (hc : b ≠ c) (j : Nat) (u : Value) : NbX (w.setCell ⟨c, j, none⟩ u) b bl sv pt := (Below.heap_setCell w ⟨c, j, none⟩ u b hc).trans h

/-- behind the letter e a sign or not, and digits. -/
def GoodE (s : ByteArray) : Prop := ∀ i, i < s.size → kd (bAt s i) = 2 → i + 1 < s.size ∧ (kd (bAt s (i + 1)) = 0 ∨ kd (bAt s (i + 1)) = 3) ∧ ∀ j, i + 1 < j → j < s.size → kd (bAt s j) = 0
theorem kd0 {c : Nat} : kd c = 0 ↔ 48 ≤ c ∧ c ≤ 57 := by unfold kd; (repeat' split) <;> omega
theorem digIn_app (seen : Bool) (c : Nat) (bl : Bool) (ds : List Nat) (pt : Int) (h : c ≠ 48 ∨ ds ≠ []) : digIn seen c ⟨bl, ds, pt⟩ = ⟨bl, ds ++ [c - 48], if seen then pt else pt + 1⟩ := by
  simp [digIn, h]
theorem digIn_not (seen : Bool) (bl : Bool) (pt : Int) : digIn seen 48 ⟨bl, [], pt⟩ = ⟨bl, [], if seen then pt - 1 else pt⟩ := by
  simp [digIn]
/-- what holds while a number is read. -/
structure Rw (B : Nat) (w wr : World) (i : Nat) (D : Dn) (sv : Value) : Prop where
  n : NbX wr (B + 1) D.below sv D.pt
  r : NbX wr B false (.slice none 0 0) 0
  o : Ow wr (B + 2) 5 sv (u8s D.ds)
  f : Fr No w wr
  b1 : D.ds.length ≤ i
  b2 : -(i : Int) ≤ D.pt
  b3 : D.pt ≤ i

theorem Rw.app {B : Nat} {w wr : World} {i : Nat} {bl : Bool} {ds : List Nat} {pt : Int} {sv : Value} (h : Rw B w wr i ⟨bl, ds, pt⟩ sv) (HB : w.heap.size = B) {sv' : Value} {c : Nat} (hc : 48 ≤ c) {w' : World}
    (o' : Ow w' (B + 2) 5 sv' (u8s ds ++ [.int .u8 ((c : Int) - 48)])) (f' : Fr (fun k => B + 2 ≤ k) wr w') : Rw B w (w'.setCell ⟨B + 1, 1, none⟩ sv') (i + 1) ⟨bl, ds ++ [c - 48], pt⟩ sv' := by
  obtain ⟨n, r, o, f, b1, b2, b3⟩ := h
  dsimp only at n r o f b1 b2 b3
  have e : u8s ds ++ [.int .u8 ((c : Int) - 48)] = u8s (ds ++ [c - 48]) := by rw [u8s_snoc, Int.ofNat_sub hc]; rfl
  rw [e] at o'
  refine ⟨(n.fr f' (by omega)).s1 _, (r.fr f' (by omega)).other (by omega) _ _, o'.set (by omega) _ _, (f.then f' (fun k h1 h2 => by omega)).setNew (by omega) _ _, by simp; omega, ?_, ?_⟩ <;> dsimp only <;> omega
theorem Rw.setPt {B : Nat} {w wr : World} {i : Nat} {bl : Bool} {ds : List Nat} {pt : Int} {sv : Value} (h : Rw B w wr i ⟨bl, ds, pt⟩ sv) (HB : w.heap.size = B) (q : Int) (h1 : -(i : Int) ≤ q) (h2 : q ≤ i) :
    Rw B w (wr.setCell ⟨B + 1, 2, none⟩ (.int .i64 q)) i ⟨bl, ds, q⟩ sv := by
  obtain ⟨n, r, o, f, b1, b2, b3⟩ := h
  exact ⟨n.s2 _, r.other (by omega) _ _, o.set (by omega) _ _, f.setNew (by omega) _ _, b1, h1, h2⟩
theorem Rw.setBl {B : Nat} {w wr : World} {i : Nat} {bl : Bool} {ds : List Nat} {pt : Int} {sv : Value} (h : Rw B w wr i ⟨bl, ds, pt⟩ sv) (HB : w.heap.size = B) (x : Bool) :
    Rw B w (wr.setCell ⟨B + 1, 0, none⟩ (.bool x)) i ⟨x, ds, pt⟩ sv := by
  obtain ⟨n, r, o, f, b1, b2, b3⟩ := h
  exact ⟨n.s0 _, r.other (by omega) _ _, o.set (by omega) _ _, f.setNew (by omega) _ _, b1, b2, b3⟩
theorem Rw.le {B : Nat} {w wr : World} {i : Nat} {D : Dn} {sv : Value} (h : Rw B w wr i D sv) {j : Nat} (hj : i ≤ j) : Rw B w wr j D sv := by
  obtain ⟨n, r, o, f, b1, b2, b3⟩ := h
  exact ⟨n, r, o, f, by omega, by omega, by omega⟩

/-- without noughts at the end. -/
def trimZ (l : List Nat) : List Nat := if 0 < l.length ∧ l.getD (l.length - 1) 0 = 0 then trimZ (l.take (l.length - 1)) else l
termination_by l.length
decreasing_by simp [List.length_take]; omega
/-- a text's digits, and its power. -/
def readR (R : Dn × Bool × Nat) : Dn := ⟨R.1.below, trimZ R.1.ds, R.1.pt + if R.2.1 then -(R.2.2 : Int) else R.2.2⟩
def readF (s : ByteArray) : Dn := readR (rdGo s 0 false ⟨false, [], 0⟩ false 0)
def ReadPost (w : World) (D : Dn) (e : Ending) (w' : World) : Prop := ∃ sv, e = .returned (.agg #[.bool D.below, sv, .int .i64 D.pt]) ∧ Ow w' w.heap.size 5 sv (u8s D.ds) ∧ Fr No w w'
theorem readEnd {B : Nat} {w wr : World} {i : Nat} {bl : Bool} {l : List Nat} {pt q : Int} {sv : Value} (h : Rw B w wr i ⟨bl, l, pt⟩ sv) (HB : w.heap.size = B) :
    let W := (((wr.setCell ⟨B + 1, 2, none⟩ (.int .i64 q)).setCell ⟨B, 0, none⟩ (.bool bl)).setCell ⟨B, 1, none⟩ sv).setCell ⟨B, 2, none⟩ (.int .i64 q)
    NbX W B bl sv q ∧ Ow W w.heap.size 5 sv (u8s l) ∧ Fr No w W := by
  obtain ⟨n, r, o, f, _, _, _⟩ := h
  dsimp only at n o
  refine ⟨?_, ?_, ?_⟩
  · exact (((r.other (by omega) _ _).s0 _).s1 _).s2 _
  · exact ((((o.set (by omega) _ _).set (by omega) _ _).set (by omega) _ _).set (by omega) _ _).base (by omega)
  · exact (((f.setNew (by omega) _ _).setNew (by omega) _ _).setNew (by omega) _ _).setNew (by omega) _ _

theorem res121 {W : World} {B : Nat} {bl : Bool} {sv : Value} {q : Int} (h : NbX W B bl sv q) (a : Array Value) (ha : a[2]?.getD undef = .pointer (some ⟨B, 0, none⟩)) :
    (results Tryd.f121 a).run Tryd.prog W = .ok (.agg #[.bool bl, sv, .int .i64 q]) W := by
  simp [results, Tryd.results121, go_sem, ha, h.c0, h.c1, h.c2]

set_option maxRecDepth 100000 in
set_option maxHeartbeats 2000000 in
theorem read_any (s : ByteArray) (w : World) (hs : s.size ≤ 140737488351232) (hE : GoodE s) :
    Calls Tryd.prog 121 #[.string s] w (ReadPost w (readF s)) := by
  obtain ⟨R, hR⟩ : ∃ R, rdGo s 0 false ⟨false, [], 0⟩ false 0 = R := ⟨_, rfl⟩
  unfold readF
  rw [hR]
  have HR := Lib.hid hR; clear hR
  go_enter Tryd.func121, Tryd.ntmps121
  go_wp2
  generalize hW : World.alloc (World.alloc w _) _ = W0
  obtain ⟨a0, a1, a2, hf0⟩ := al2 hW
  clear hW
  obtain ⟨B, hB⟩ : ∃ B, w.heap.size = B := ⟨_, rfl⟩
  rw [hB] at a0 a1 a2
  simp only [hB]
  have HB := Lib.hid hB; clear hB
  go_loopg [4, 5, 6, 7] (s.size + 1) (fun gk u4 u5 u6 u7 wr => ∃ (i : Nat) (seen : Bool) (D : Dn) (sv : Value) (down : Bool) (pw : Nat), u4 = .bool seen ∧ u5 = .bool down ∧ u6 = .int .i64 pw ∧ u7 = .int .i64 i ∧ i ≤ s.size + 1 ∧ pw ≤ 1099511627776 ∧
      rdGo s i seen D down pw = R ∧ Rw B w wr i D sv ∧ gk = s.size + 1 - i)
  case atStart => exact ⟨0, false, ⟨false, [], 0⟩, .slice none 0 0, false, 0, rfl, rfl, rfl, rfl, by omega, by omega, HR.out, ⟨a2, a1, Ow.nil _ _ _, hf0 No, by simp, by simp, by simp⟩, rfl⟩
  case round =>
    obtain ⟨i, seen, D, sv, down, pw, rfl, rfl, rfl, rfl, hi, hpw, hgo, hI, rfl⟩ := hrel
    have HG := Lib.hid hgo; clear hgo
    obtain ⟨bl, ds, pt⟩ := D
    have HI := Lib.hid hI
    obtain ⟨n, r, o, f, b1, b2, b3⟩ := hI
    dsimp only at n o b1 b2 b3
    obtain ⟨A, cap, rfl, hcap⟩ := o.form
    rw [u8s_length] at n o hcap HI
    have n0 := n.c0
    have n1 := n.c1
    have n2 := n.c2
    have m0 := n.f0 0
    have m1 := n.f0 1
    have m2 := n.f0 2
    have HHb : B + 2 ≤ wr.heap.size := by have := f.size; have := lt_of_block n; omega
    by_cases hlt : i < s.size
    · obtain ⟨c, hc⟩ : ∃ c, bAt s i = c := ⟨_, rfl⟩
      have h256 : c < 256 := hc ▸ bAt_lt s i
      have hb : s[i].toNat = c := (bAt_eq s i hlt).trans hc
      have HS : rdGo s i seen ⟨bl, ds, pt⟩ down pw = R := HG.out
      rw [rdGo, if_pos hlt, hc] at HS
      by_cases hk0 : kd c = 0
      · have hc48 := kd0.1 hk0
        rw [if_pos hk0] at HS
        have hI : kdI c = 0 := by simp [kdI, hk0]
        clear hk0 hc
        have hor : (((c : Int) != 48) = true ∧ c ≠ 48) ∨ (((c : Int) != 48) = false ∧ 0 < ds.length) ∨ (((c : Int) != 48) = false ∧ ds = []) := by
          by_cases h1 : c = 48
          · cases ds with
            | nil => exact .inr (.inr ⟨by simp [h1], rfl⟩)
            | cons x l => exact .inr (.inl ⟨by simp [h1], by simp⟩)
          · exact .inl ⟨by simp; omega, h1⟩
        rcases hor with ⟨h1, h2⟩ | ⟨h0, h1⟩ | ⟨h0, rfl⟩
        · rw [digIn_app seen c bl ds pt (.inl h2)] at HS
          replace HS := Lib.hid HS
          clear h2
          cases seen
          · go_wp2_with (first | ((go_at_call 143; ((with_reducible refine (kind_any _ _).mono ?_); rintro e w' ⟨rfl, rfl⟩))) | (at_builtin; refine wpList_app1 rfl _ _ 62 rfl (B + 2) 5 (.int .u8 0) 1 Tryd.underlying62 info5 rfl _ ds.length (u8s ds) (u8s_length ds) _ rfl (by exact o) rfl rfl (by omega) (by omega) (by omega) ?_; intro A' cap' w' o' f'; have n' := n.fr f' (by omega); have n0 := n'.c0; have n1 := n'.c1; have n2 := n'.c2; have m0 := n'.f0 0; have m1 := n'.f0 1; have m2 := n'.f0 2))
            go_roundg (s.size + 1 - (i + 1))
            case measure => omega
            case rel => exact ⟨i + 1, _, _, _, _, pw, rfl, rfl, rfl, by go_num, by omega, hpw, HS.out, (HI.out.app HB.out hc48.1 o' f').setPt HB.out _ (by omega) (by omega), rfl⟩
          · go_wp2_with (first | ((go_at_call 143; ((with_reducible refine (kind_any _ _).mono ?_); rintro e w' ⟨rfl, rfl⟩))) | (at_builtin; refine wpList_app1 rfl _ _ 62 rfl (B + 2) 5 (.int .u8 0) 1 Tryd.underlying62 info5 rfl _ ds.length (u8s ds) (u8s_length ds) _ rfl (by exact o) rfl rfl (by omega) (by omega) (by omega) ?_; intro A' cap' w' o' f'; have n' := n.fr f' (by omega); have n0 := n'.c0; have n1 := n'.c1; have n2 := n'.c2; have m0 := n'.f0 0; have m1 := n'.f0 1; have m2 := n'.f0 2))
            go_roundg (s.size + 1 - (i + 1))
            case measure => omega
            case rel => exact ⟨i + 1, _, _, _, _, pw, rfl, rfl, rfl, by go_num, by omega, hpw, HS.out, (HI.out.app HB.out hc48.1 o' f'), rfl⟩
        · rw [digIn_app seen c bl ds pt (.inr (by intro h; rw [h] at h1; simp at h1))] at HS
          replace HS := Lib.hid HS
          cases seen
          · go_wp2_with (first | ((go_at_call 143; ((with_reducible refine (kind_any _ _).mono ?_); rintro e w' ⟨rfl, rfl⟩))) | (at_builtin; refine wpList_app1 rfl _ _ 62 rfl (B + 2) 5 (.int .u8 0) 1 Tryd.underlying62 info5 rfl _ ds.length (u8s ds) (u8s_length ds) _ rfl (by exact o) rfl rfl (by omega) (by omega) (by omega) ?_; intro A' cap' w' o' f'; have n' := n.fr f' (by omega); have n0 := n'.c0; have n1 := n'.c1; have n2 := n'.c2; have m0 := n'.f0 0; have m1 := n'.f0 1; have m2 := n'.f0 2))
            go_roundg (s.size + 1 - (i + 1))
            case measure => omega
            case rel => exact ⟨i + 1, _, _, _, _, pw, rfl, rfl, rfl, by go_num, by omega, hpw, HS.out, (HI.out.app HB.out hc48.1 o' f').setPt HB.out _ (by omega) (by omega), rfl⟩
          · go_wp2_with (first | ((go_at_call 143; ((with_reducible refine (kind_any _ _).mono ?_); rintro e w' ⟨rfl, rfl⟩))) | (at_builtin; refine wpList_app1 rfl _ _ 62 rfl (B + 2) 5 (.int .u8 0) 1 Tryd.underlying62 info5 rfl _ ds.length (u8s ds) (u8s_length ds) _ rfl (by exact o) rfl rfl (by omega) (by omega) (by omega) ?_; intro A' cap' w' o' f'; have n' := n.fr f' (by omega); have n0 := n'.c0; have n1 := n'.c1; have n2 := n'.c2; have m0 := n'.f0 0; have m1 := n'.f0 1; have m2 := n'.f0 2))
            go_roundg (s.size + 1 - (i + 1))
            case measure => omega
            case rel => exact ⟨i + 1, _, _, _, _, pw, rfl, rfl, rfl, by go_num, by omega, hpw, HS.out, (HI.out.app HB.out hc48.1 o' f'), rfl⟩
        · rw [show c = 48 from by simp at h0; omega, digIn_not] at HS
          replace HS := Lib.hid HS
          cases seen
          · go_wp2_with (first | ((go_at_call 143; ((with_reducible refine (kind_any _ _).mono ?_); rintro e w' ⟨rfl, rfl⟩))))
            go_roundg (s.size + 1 - (i + 1))
            case measure => omega
            case rel => exact ⟨i + 1, _, _, _, _, pw, rfl, rfl, rfl, by go_num, by omega, hpw, HS.out, HI.out.le (by omega), rfl⟩
          · go_wp2_with (first | ((go_at_call 143; ((with_reducible refine (kind_any _ _).mono ?_); rintro e w' ⟨rfl, rfl⟩))))
            go_roundg (s.size + 1 - (i + 1))
            case measure => omega
            case rel => exact ⟨i + 1, _, _, _, _, pw, rfl, rfl, rfl, by go_num, by omega, hpw, HS.out, (HI.out.le (by omega)).setPt HB.out _ (by omega) (by omega), rfl⟩
      · rw [if_neg hk0] at HS
        by_cases hk1 : kd c = 1
        · rw [if_pos hk1] at HS
          have hI : kdI c = 1 := by simp [kdI, hk1]
          clear hk0 hk1 hc
          replace HS := Lib.hid HS
          go_wp2_with (first | ((go_at_call 143; ((with_reducible refine (kind_any _ _).mono ?_); rintro e w' ⟨rfl, rfl⟩))))
          go_roundg (s.size + 1 - (i + 1))
          case measure => omega
          case rel => exact ⟨i + 1, _, _, _, _, pw, rfl, rfl, rfl, by go_num, by omega, hpw, HS.out, HI.out.le (by omega), rfl⟩
        · rw [if_neg hk1] at HS
          by_cases hk3 : kd c = 3
          · rw [if_pos hk3] at HS
            have hI : kdI c = 3 := by simp [kdI, hk3]
            have hX : (c == 45) = ((c : Int) == 45) := by rw [Bool.eq_iff_iff]; simp; omega
            have HX := Lib.hid hX; clear hX
            clear hk0 hk1 hk3 hc
            replace HS := Lib.hid HS
            go_wp2_with (first | ((go_at_call 143; ((with_reducible refine (kind_any _ _).mono ?_); rintro e w' ⟨rfl, rfl⟩))))
            go_roundg (s.size + 1 - (i + 1))
            case measure => omega
            case rel => exact ⟨i + 1, _, _, _, _, pw, rfl, rfl, rfl, by go_num, by omega, hpw, HS.out, by rw [HX.out]; exact (HI.out.le (by omega)).setBl HB.out _, rfl⟩
          · rw [if_neg hk3] at HS
            by_cases hk2 : kd c = 2
            · rw [if_pos hk2] at HS
              have hI : kdI c = 2 := by simp [kdI, hk2]
              obtain ⟨hE1, hE2, hE3⟩ := hE i hlt (by rw [hc]; exact hk2)
              obtain ⟨d, hd⟩ : ∃ d, bAt s (i + 1) = d := ⟨_, rfl⟩
              have h256d : d < 256 := hd ▸ bAt_lt s (i + 1)
              have hbd : s[i + 1].toNat = d := (bAt_eq s (i + 1) hE1).trans hd
              rw [hd] at HS hE2
              have hX : (d == 45) = ((d : Int) == 45) := by rw [Bool.eq_iff_iff]; simp; omega
              have HX := Lib.hid hX; clear hX
              have HDd := Lib.hid hd
              clear hk0 hk1 hk3 hk2 hc hd
              have HE3 := Lib.hid hE3
              clear hE3
              rcases hE2 with hd0 | hd3
              · rw [if_neg (by omega)] at HS
                have hI2 : kdI d = 0 := by simp [kdI, hd0]
                have HD : Hid (∀ j, i + 1 ≤ j → j < s.size → kd (bAt s j) = 0) := by
                  intro j h1 h2
                  by_cases h3 : j = i + 1
                  · subst h3; rw [HDd.out]; exact hd0
                  · exact HE3.out j (by omega) h2
                clear hd0
                replace HS := Lib.hid HS
                go_wp2_with (first | ((go_at_call 143; ((with_reducible refine (kind_any _ _).mono ?_); rintro e w' ⟨rfl, rfl⟩))))
                obtain ⟨wo, rfl⟩ : ∃ wo : World, wo = wr := ⟨_, rfl⟩
                go_loopg [6, 7] s.size (fun gk u6 u7 wr => ∃ j p : Nat, u6 = .int .i64 p ∧ u7 = .int .i64 j ∧ i + 1 ≤ j ∧ j ≤ s.size ∧ p ≤ 1099511627776 ∧ pwGo s j p = pwGo s (i + 1) pw ∧ wr = wo ∧ gk + j = s.size + (i + 1))
                case atStart => exact ⟨i + 1, pw, rfl, by go_num, by omega, by omega, hpw, rfl, rfl, rfl⟩
                case round =>
                  obtain ⟨j, p, rfl, rfl, hj, hj2, hp, hpg, rfl, hgk⟩ := hrel
                  have HP := Lib.hid hpg; clear hpg
                  have HGk := Lib.hid hgk; clear hgk
                  by_cases hjl : j < s.size
                  · obtain ⟨x, hx⟩ : ∃ x, bAt s j = x := ⟨_, rfl⟩
                    have hbx : s[j].toNat = x := (bAt_eq s j hjl).trans hx
                    have hx48 : 48 ≤ x ∧ x ≤ 57 := kd0.1 (hx ▸ HD.out j hj hjl)
                    have HZ : Hid (pwGo s j p = pwGo s (j + 1) (min (10 * p + (x - 48)) 1099511627776)) := by unfold Hid; rw [pwGo, if_pos hjl, hx]
                    clear hx
                    go_wp2
                    all_goals
                      go_roundg (s.size + (i + 1) - (j + 1))
                      case measure => have := HGk.out; omega
                      case rel => exact ⟨j + 1, min (10 * p + (x - 48)) 1099511627776, by congr 1; omega, by go_num, by omega, by omega, Nat.min_le_right _ _, by rw [← HP.out, HZ.out], rfl, by omega⟩
                  · have HZ : Hid (pwGo s j p = p) := by unfold Hid; rw [pwGo, if_neg hjl]
                    go_wp2
                    go_roundg 0
                    case measure => omega
                    case rel => exact ⟨s.size + 1, seen, ⟨bl, ds, pt⟩, _, _, p, rfl, rfl, rfl, by congr 1; omega, by omega, by omega, by rw [rdGo, if_neg (by omega), ← HS.out, ← HP.out, HZ.out], HI.out.le (by omega), by omega⟩

              · rw [if_pos hd3] at HS
                have hI2 : kdI d = 3 := by simp [kdI, hd3]
                have HD : Hid (∀ j, i + 2 ≤ j → j < s.size → kd (bAt s j) = 0) := fun j h1 h2 => HE3.out j (by omega) h2
                clear hd3
                replace HS := Lib.hid HS
                go_wp2_with (first | ((go_at_call 143; ((with_reducible refine (kind_any _ _).mono ?_); rintro e w' ⟨rfl, rfl⟩))))
                obtain ⟨wo, rfl⟩ : ∃ wo : World, wo = wr := ⟨_, rfl⟩
                go_loopg [6, 7] s.size (fun gk u6 u7 wr => ∃ j p : Nat, u6 = .int .i64 p ∧ u7 = .int .i64 j ∧ i + 2 ≤ j ∧ j ≤ s.size ∧ p ≤ 1099511627776 ∧ pwGo s j p = pwGo s (i + 2) pw ∧ wr = wo ∧ gk + j = s.size + (i + 2))
                case atStart => exact ⟨i + 2, pw, rfl, by go_num, by omega, by omega, hpw, rfl, rfl, rfl⟩
                case round =>
                  obtain ⟨j, p, rfl, rfl, hj, hj2, hp, hpg, rfl, hgk⟩ := hrel
                  have HP := Lib.hid hpg; clear hpg
                  have HGk := Lib.hid hgk; clear hgk
                  by_cases hjl : j < s.size
                  · obtain ⟨x, hx⟩ : ∃ x, bAt s j = x := ⟨_, rfl⟩
                    have hbx : s[j].toNat = x := (bAt_eq s j hjl).trans hx
                    have hx48 : 48 ≤ x ∧ x ≤ 57 := kd0.1 (hx ▸ HD.out j hj hjl)
                    have HZ : Hid (pwGo s j p = pwGo s (j + 1) (min (10 * p + (x - 48)) 1099511627776)) := by unfold Hid; rw [pwGo, if_pos hjl, hx]
                    clear hx
                    go_wp2
                    all_goals
                      go_roundg (s.size + (i + 2) - (j + 1))
                      case measure => have := HGk.out; omega
                      case rel => exact ⟨j + 1, min (10 * p + (x - 48)) 1099511627776, by congr 1; omega, by go_num, by omega, by omega, Nat.min_le_right _ _, by rw [← HP.out, HZ.out], rfl, by omega⟩
                  · have HZ : Hid (pwGo s j p = p) := by unfold Hid; rw [pwGo, if_neg hjl]
                    go_wp2
                    go_roundg 0
                    case measure => omega
                    case rel => exact ⟨s.size + 1, seen, ⟨bl, ds, pt⟩, _, _, p, rfl, rfl, rfl, by congr 1; omega, by omega, by omega, by rw [rdGo, if_neg (by omega), ← HS.out, ← HP.out, HZ.out]; rw [HX.out], HI.out.le (by omega), by omega⟩

            · rw [if_neg hk2] at HS
              have hk4 : kd c = 4 := by have := kd_lt c; omega
              have hI : kdI c = -1 := by simp [kdI, hk4]
              clear hk0 hk1 hk2 hk3 hk4 hc
              replace HS := Lib.hid HS
              go_wp2_with (first | ((go_at_call 143; ((with_reducible refine (kind_any _ _).mono ?_); rintro e w' ⟨rfl, rfl⟩))))
              go_roundg (s.size + 1 - (i + 1))
              case measure => omega
              case rel => exact ⟨i + 1, _, _, _, _, pw, rfl, rfl, rfl, by go_num, by omega, hpw, HS.out, HI.out.le (by omega), rfl⟩
    · have HS : Hid ((⟨bl, ds, pt⟩, down, pw) = R) := by
        have h := HG.out
        rw [rdGo, if_neg hlt] at h
        exact h
      go_wp2
      obtain ⟨wo, rfl⟩ : ∃ wo : World, wo = wr := ⟨_, rfl⟩
      have hpt1 : -140737488351233 ≤ pt ∧ pt ≤ 140737488351233 := by omega
      go_loopg [] ds.length (fun gk wr => ∃ (l : List Nat) (A : Option Addr) (cap : Nat), trimZ l = trimZ ds ∧ Rw B w wr i ⟨bl, l, pt⟩ (.slice A l.length cap) ∧ gk = l.length)
      case atStart => exact ⟨ds, A, cap, rfl, HI.out, rfl⟩
      case round =>
        obtain ⟨l, A, cap, hT, hI, rfl⟩ := hrel
        have HT := Lib.hid hT; clear hT
        have HI := Lib.hid hI
        obtain ⟨n, r, o, f, b1, b2, b3⟩ := hI
        dsimp only at n o b1 b2 b3
        have n0 := n.c0
        have n1 := n.c1
        have n2 := n.c2
        have m1 := n.f0 1
        have m2 := n.f0 2
        by_cases hl : 0 < l.length
        · obtain ⟨g, cap', hA, hc', _⟩ := o.form2 (by rw [u8s_length]; exact hl)
          rw [u8s_length] at hc'
          injection hA with hA1 hA2 hA3
          have hlc : l.length ≤ cap := by omega
          clear hA2 hA3 hc'
          subst hA1
          obtain ⟨x, hx⟩ : ∃ x, l.getD (l.length - 1) 0 = x := ⟨_, rfl⟩
          have hcell : wr.cell? ⟨g, l.length - 1, none⟩ = some (.int .u8 x) := by
            rw [o.cell (l.length - 1) (by rw [u8s_length]; omega), ← hx]
            simp [u8s, List.getD, List.getElem?_eq_getElem (show l.length - 1 < l.length by omega)]
          by_cases hx0 : x = 0
          · have hxb : ((x : Int) == 0) = true := by simp [hx0]
            have HZ : Hid (trimZ l = trimZ (l.take (l.length - 1))) := by unfold Hid; rw [trimZ, if_pos ⟨hl, by rw [hx, hx0]⟩]
            have ho2 : Ow wr (B + 2) 5 (.slice (some ⟨g, 0, none⟩) (l.length - 1) cap) (u8s (l.take (l.length - 1))) := by
              have := o.cut (l.length - 1) (by rw [u8s_length]; omega) (.inl (by simp))
              rwa [show (u8s l).take (l.length - 1) = u8s (l.take (l.length - 1)) from by simp [u8s, List.map_take]] at this
            have HO := Lib.hid ho2; clear ho2
            have hl2 : (l.take (l.length - 1)).length = l.length - 1 := by rw [List.length_take]; omega
            have HL2 := Lib.hid hl2; clear hl2
            clear hx hx0
            go_wp2
            go_roundg (l.length - 1)
            case measure => omega
            case rel =>
              have HB' := HB.out
              exact ⟨l.take (l.length - 1), some ⟨g, 0, none⟩, cap, by rw [← HZ.out]; exact HT.out, by
                rw [HL2.out]
                exact ⟨n.s1 _, r.other (by omega) _ _, HO.out.set (by omega) _ _, f.setNew (by omega) _ _, by dsimp only; rw [HL2.out]; omega, b2, b3⟩, HL2.out.symm⟩
          · have hxb : ((x : Int) == 0) = false := by simp [hx0]
            have HZ : Hid (trimZ l = l) := by unfold Hid; rw [trimZ, if_neg (by rw [hx]; exact fun h => hx0 h.2)]
            clear hx hx0
            have r0 := r.c0; have r1 := r.c1; have r2 := r.c2
            have q0 := r.f0 0; have q1 := r.f0 1; have q2 := r.f0 2
            cases down
            all_goals
              go_wp2
              obtain ⟨y1, y2, y3⟩ := readEnd HI.out HB.out
              refine bodyPost_ret (res121 y1 _ rfl) rfl ?_
              exact ⟨_, by rw [← HS.out]; rfl, by rw [← HS.out]; unfold readR; dsimp only; rw [← HT.out, HZ.out]; exact y2, y3⟩
        · have HZ : Hid (trimZ l = l) := by unfold Hid; rw [trimZ, if_neg (by omega)]
          obtain rfl : l = [] := by cases l with | nil => rfl | cons x l => simp at hl
          have r0 := r.c0; have r1 := r.c1; have r2 := r.c2
          have q0 := r.f0 0; have q1 := r.f0 1; have q2 := r.f0 2
          cases down
          all_goals
            go_wp2
            obtain ⟨y1, y2, y3⟩ := readEnd HI.out HB.out
            refine bodyPost_ret (res121 y1 _ rfl) rfl ?_
            exact ⟨_, by rw [← HS.out]; rfl, by rw [← HS.out]; unfold readR; dsimp only; rw [← HT.out, HZ.out]; exact y2, y3⟩
end Go.Proofs.YtchgjjegcoiepaaDoor
