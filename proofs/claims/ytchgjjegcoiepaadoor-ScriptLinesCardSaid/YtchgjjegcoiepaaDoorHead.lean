/- script's reader: a canvas's line. -/
import Derived.Test.YtchgjjegcoiepaaDoorWhole
namespace Go.Proofs.YtchgjjegcoiepaaDoor
open Go.RowKit

def canvasL : List UInt8 := [99, 97, 110, 118, 97, 115]
def headF (r : RS) : Nat × Nat × RS :=
  let x := wordF r
  let a := wholeF 999999 { x.2 with bad := !(x.1.toList == canvasL) }
  let b := wholeF 999999 a.2
  (a.1, b.1, { b.2 with bad := b.2.bad || b.2.more })
theorem wholeF_size (m : Nat) (r : RS) : (wholeF m r).2.left.size ≤ r.left.size := by
  have := (wordF_size r).2
  unfold wholeF
  split <;> exact this

set_option maxRecDepth 100000 in
set_option maxHeartbeats 1000000 in
theorem head_any (b : Nat) (r : RS) (w : World) (h : Rq w b r) (hb : 14 ≤ b) (hs : r.left.size ≤ 140737488351232) (hE : TabE w) (hP : TabP w) :
    Calls Tryd.prog 38 #[.pointer (some ⟨b, 0, none⟩)] w (RsPost b w (.tuple #[.int .i64 (headF r).1, .int .i64 (headF r).2.1]) (headF r).2.2) := by
  have HW := Lib.hid (word_any b r w h hs)
  have hws := (wordF_size r).2
  have HR : Hid (headF r = ((wholeF 999999 { (wordF r).2 with bad := !((wordF r).1.toList == canvasL) }).1, (wholeF 999999 (wholeF 999999 { (wordF r).2 with bad := !((wordF r).1.toList == canvasL) }).2).1,
      { (wholeF 999999 (wholeF 999999 { (wordF r).2 with bad := !((wordF r).1.toList == canvasL) }).2).2 with bad := (wholeF 999999 (wholeF 999999 { (wordF r).2 with bad := !((wordF r).1.toList == canvasL) }).2).2.bad || (wholeF 999999 (wholeF 999999 { (wordF r).2 with bad := !((wordF r).1.toList == canvasL) }).2).2.more })) := rfl
  obtain ⟨R, hR⟩ : ∃ R, headF r = R := ⟨_, rfl⟩
  rw [hR] at HR ⊢
  clear hR
  obtain ⟨x, hx⟩ : ∃ x, wordF r = x := ⟨_, rfl⟩
  rw [hx] at HW HR hws
  clear hx
  obtain ⟨wd, r1⟩ := x
  dsimp only at HW HR hws
  have hP14 : ∀ k, k < 14 → ¬ One b k := fun k hk e => by have : k = b := e; omega
  have HEE : Hid (TabE w) := hE
  have HPP : Hid (TabP w) := hP
  clear hE hP
  obtain ⟨t, ht⟩ : ∃ t, (wd.toList == canvasL) = t := ⟨_, rfl⟩
  rw [ht] at HR
  unfold canvasL at ht
  have HA := Lib.hid (fun wx (hx : Rq wx b { r1 with bad := !t }) (he : TabE wx) (hp : TabP wx) => whole_any b 999999 { r1 with bad := !t } wx hx hb (by show r1.left.size ≤ _; omega) (Nat.le_refl _) he hp)
  have hsz2 := wholeF_size 999999 { r1 with bad := !t }
  obtain ⟨A, hA⟩ : ∃ A, wholeF 999999 { r1 with bad := !t } = A := ⟨_, rfl⟩
  rw [hA] at HA HR hsz2
  clear hA
  obtain ⟨a, r2⟩ := A
  dsimp only at HA HR hsz2
  have HB := Lib.hid (fun wx (hx : Rq wx b r2) (he : TabE wx) (hp : TabP wx) => whole_any b 999999 r2 wx hx hb (by omega) (Nat.le_refl _) he hp)
  obtain ⟨B, hB⟩ : ∃ B, wholeF 999999 r2 = B := ⟨_, rfl⟩
  rw [hB] at HB HR
  clear hB
  obtain ⟨a2, l3, m3, b3⟩ := B
  dsimp only at HB HR
  unfold RsPost at HW HA HB
  clear hws hsz2
  cases b3
  all_goals
   simp only [Bool.false_or, Bool.true_or] at HR
   go_enter Tryd.func38, Tryd.ntmps38
   go_upto_region 2 with (go_at_call 73; refine HW.out.mono ?_; rintro e w1 ⟨rfl, q1, f1⟩; have z1 := q1.fz 2; have d1 := q1.c2)
   have q1' := q1.s2 (!t)
   have f1' := f1.set1 2 (.bool (!t))
   generalize World.setCell w1 ⟨b, 2, none⟩ (.bool (!t)) = w1b at q1' f1' ⊢
   clear ht z1 d1 q1 f1
   go_wp2_with (first
     | (go_at_call 74; have _tk := q1'; refine (HA.out _ q1' (HEE.out.fr f1' hP14) (TabP.fr HPP.out f1' hP14)).mono ?_; rintro e w2 ⟨rfl, q2, f2⟩; have f02 := f1'.trans f2; clear q1')
     | (go_at_call 74; refine (HB.out _ q2 (HEE.out.fr f02 hP14) (TabP.fr HPP.out f02 hP14)).mono ?_; rintro e w3 ⟨rfl, q3, f3⟩; have f03 := f02.trans f3; have d1 := q3.c1; have d2 := q3.c2; have z2 := q3.fz 2))
   go_ret2
   rw [HR.out]
   exact ⟨rfl, q3.s2 _, f03.set1 _ _⟩
end Go.Proofs.YtchgjjegcoiepaaDoor
