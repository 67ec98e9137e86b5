/- A NUMBER THAT WAS PRINTED IS READ AS IT WAS: plain lists, no program. -/
import Derived.Test.YtchgjjegcoiepaaDoorPrint
namespace Go.Proofs.YtchgjjegcoiepaaDoor
open Go.RowKit

/-- the bytes of a text from a place on. -/
abbrev from_ (s : ByteArray) (i : Nat) : List UInt8 := s.data.toList.drop i
theorem bAt_drop {s : ByteArray} {i : Nat} {x : UInt8} {r : List UInt8} (h : from_ s i = x :: r) : i < s.size ∧ bAt s i = x.toNat ∧ from_ s (i + 1) = r := by
  unfold from_ at h ⊢
  have hl : i < s.data.toList.length := by
    rcases Nat.lt_or_ge i s.data.toList.length with h' | h'
    · exact h'
    · rw [List.drop_eq_nil_of_le h'] at h; cases h
  rw [List.drop_eq_getElem_cons hl] at h
  injection h with h1 h2
  refine ⟨by simpa using hl, ?_, h2⟩
  unfold bAt
  rw [List.getD, List.getElem?_eq_getElem hl, Option.getD_some, h1]
theorem size_drop {s : ByteArray} {i : Nat} (h : from_ s i = []) : s.size ≤ i := by
  unfold from_ at h
  have := List.drop_eq_nil_iff.1 h
  simpa using this
theorem drop_more {s : ByteArray} {i : Nat} {X r : List UInt8} (h : from_ s i = X ++ r) : from_ s (i + X.length) = r := by
  unfold from_ at h ⊢
  rw [← List.drop_drop, h, List.drop_left]
theorem drop_size {s : ByteArray} {i : Nat} {X : List UInt8} (h : from_ s i = X) (hi : i ≤ s.size) : s.size = i + X.length := by
  have h1 := congrArg List.length h
  unfold from_ at h1
  rw [List.length_drop] at h1
  have : s.data.toList.length = s.size := by simp
  omega

def Dig (X : List UInt8) : Prop := ∀ x ∈ X, 48 ≤ x.toNat ∧ x.toNat ≤ 57
theorem Dig.nil : Dig [] := by intro x h; simp at h
theorem Dig.head {x : UInt8} {X : List UInt8} (h : Dig (x :: X)) : 48 ≤ x.toNat ∧ x.toNat ≤ 57 := h x (by simp)
theorem Dig.tail {x : UInt8} {X : List UInt8} (h : Dig (x :: X)) : Dig X := fun y hy => h y (by simp [hy])
theorem Dig.app {X Y : List UInt8} (h : Dig X) (k : Dig Y) : Dig (X ++ Y) := by
  intro y hy
  rcases List.mem_append.1 hy with hy | hy
  · exact h y hy
  · exact k y hy
theorem ofNat_digit (d : Nat) (h : d < 10) : (UInt8.ofNat (48 + d)).toNat = 48 + d := by
  rw [UInt8.toNat_ofNat']; omega
theorem dec_dig (n : Nat) : Dig (Lib.decDigits n) ∧ 0 < (Lib.decDigits n).length := by
  induction n using Nat.strongRecOn with
  | _ n ih =>
    rw [Lib.decDigits]
    split
    · rename_i h
      refine ⟨?_, by simp⟩
      intro x hx
      simp only [List.mem_singleton] at hx
      subst hx
      rw [ofNat_digit n h]; omega
    · rename_i h
      have := ih (n / 10) (by omega)
      refine ⟨this.1.app ?_, by simp⟩
      intro x hx
      simp only [List.mem_singleton] at hx
      subst hx
      rw [ofNat_digit _ (by omega)]; omega
theorem frac_dig : ∀ (k r : Nat), r < 65536 → Dig (frac k r)
  | 0, _, _ => Dig.nil
  | k + 1, r, h => by
    unfold frac
    split
    · exact Dig.nil
    · intro x hx
      rcases List.mem_cons.1 hx with rfl | hx
      · have e : r * 10 / 65536 < 10 := by omega
        rw [ofNat_digit _ e]; omega
      · exact frac_dig k _ (by omega) x hx

theorem kd_dig {c : Nat} (h : 48 ≤ c ∧ c ≤ 57) : kd c = 0 := kd0.2 h
/-- digits are scanned. -/
theorem scan_run (s : ByteArray) (sg : Bool) (st : Nat) (h0 : nxt st 0 = st) (hst : st ≠ 0) : ∀ (X : List UInt8) (i : Nat) (r : List UInt8), Dig X → from_ s i = X ++ r → scanGo s sg i st = scanGo s sg (i + X.length) st
  | [], i, r, _, _ => rfl
  | x :: X, i, r, hX, h => by
    obtain ⟨h1, h2, h3⟩ := bAt_drop h
    have hk : kd (bAt s i) = 0 := by rw [h2]; exact kd_dig hX.head
    have hs : stops sg st (kd (bAt s i)) = false := by rw [hk]; unfold stops; rw [h0]; simp [hst]
    rw [scanGo, if_pos ⟨h1, hs⟩, hk, h0, scan_run s sg st h0 hst X (i + 1) r hX.tail h3]
    rw [List.length_cons]
    congr 1
    omega
/-- nothing of a number's comes next. -/
def Stop (r : List UInt8) : Prop := ∀ b r', r = b :: r' → kd b.toNat = 4
theorem scan_stop (s : ByteArray) (sg : Bool) (st i : Nat) (r : List UInt8) (h : from_ s i = r) (hr : Stop r) : scanGo s sg i st = (i, st) := by
  rw [scanGo, if_neg]
  rintro ⟨h1, h2⟩
  cases r with
  | nil => have := size_drop h; omega
  | cons b r =>
    obtain ⟨_, e, _⟩ := bAt_drop h
    rw [e, hr b r rfl] at h2
    simp [stops] at h2
theorem scan_one (s : ByteArray) (sg : Bool) (st i : Nat) (x : UInt8) (r : List UInt8) (h : from_ s i = x :: r) (hs : stops sg st (kd x.toNat) = false) : scanGo s sg i st = scanGo s sg (i + 1) (nxt st (kd x.toNat)) := by
  obtain ⟨h1, h2, h3⟩ := bAt_drop h
  rw [scanGo, if_pos ⟨h1, by rw [h2]; exact hs⟩, h2]

/-- the digits, the point. -/
def unsg (n : Nat) : List UInt8 := Lib.decDigits (n / 65536) ++ (if n % 65536 = 0 then [] else 46 :: frac 16 (n % 65536))
theorem prL_eq (v : Int) : prL v = (if v < 0 then [45] else []) ++ unsg v.natAbs := by
  unfold prL unsg; rw [List.append_assoc]
theorem frac_ne (r : Nat) (h : r ≠ 0) : ∃ x X, frac 16 r = x :: X := by
  rw [show 16 = 15 + 1 from rfl, frac, if_neg h]
  exact ⟨_, _, rfl⟩
theorem scan_unsg (s : ByteArray) (sg : Bool) (st i n : Nat) (r : List UInt8) (h : from_ s i = unsg n ++ r) (hr : Stop r) (hst : st = 0 ∨ st = 1) :
    ∃ st', scanGo s sg i st = (i + (unsg n).length, st') ∧ endL.getD st' 0 = 1 := by
  obtain ⟨hD, hl⟩ := dec_dig (n / 65536)
  unfold unsg at h ⊢
  obtain ⟨x, X, hx⟩ : ∃ x X, Lib.decDigits (n / 65536) = x :: X := by
    cases hh : Lib.decDigits (n / 65536) with
    | nil => rw [hh] at hl; simp at hl
    | cons x X => exact ⟨x, X, rfl⟩
  rw [hx] at h hD ⊢
  rw [List.cons_append, List.cons_append, List.append_assoc] at h
  have e1 : scanGo s sg i st = scanGo s sg (i + 1) 2 := by
    have hk := kd_dig hD.head
    rw [scan_one s sg st i x _ h (by rw [hk]; rcases hst with rfl | rfl <;> cases sg <;> rfl), hk]
    rcases hst with rfl | rfl <;> rfl
  have h1 := (bAt_drop h).2.2
  have e2 := scan_run s sg 2 rfl (by decide) X (i + 1) _ hD.tail h1
  have h2 := drop_more h1
  by_cases hf : n % 65536 = 0
  · rw [if_pos hf] at h2 ⊢
    rw [List.nil_append] at h2
    refine ⟨2, ?_, rfl⟩
    rw [e1, e2, scan_stop s sg 2 _ r h2 hr]
    simp; omega
  · rw [if_neg hf] at h2 ⊢
    have hF := frac_dig 16 (n % 65536) (by omega)
    obtain ⟨y, Y, hy⟩ := frac_ne _ hf
    rw [hy] at h2 hF ⊢
    have e3 := scan_one s sg 2 _ 46 _ h2 rfl
    have h3 := (bAt_drop h2).2.2
    have hk := kd_dig hF.head
    have e4 := scan_one s sg 4 _ y _ h3 (by rw [hk]; rfl)
    rw [hk] at e4
    have h4 := (bAt_drop h3).2.2
    have e5 := scan_run s sg 5 rfl (by decide) Y _ r hF.tail h4
    have h5 := drop_more h4
    refine ⟨5, ?_, rfl⟩
    rw [e1, e2, e3, show nxt 2 (kd (46 : UInt8).toNat) = 4 from rfl, e4, show nxt 4 0 = 5 from rfl, e5, scan_stop s sg 5 _ r h5 hr]
    simp; omega
theorem scan_prL (s : ByteArray) (sg : Bool) (i : Nat) (v : Int) (r : List UInt8) (h : from_ s i = prL v ++ r) (hr : Stop r) (hv : v < 0 → sg = true) :
    ∃ st', scanGo s sg i 0 = (i + (prL v).length, st') ∧ endL.getD st' 0 = 1 := by
  rw [prL_eq] at h ⊢
  by_cases hn : v < 0
  · rw [if_pos hn] at h ⊢
    obtain rfl := hv hn
    have e1 := scan_one s true 0 i 45 _ h rfl
    obtain ⟨st', e2, e3⟩ := scan_unsg s true 1 (i + 1) v.natAbs r (bAt_drop h).2.2 hr (.inr rfl)
    refine ⟨st', ?_, e3⟩
    rw [e1, show nxt 0 (kd (45 : UInt8).toNat) = 1 from rfl, e2]
    simp; omega
  · rw [if_neg hn] at h ⊢
    exact scan_unsg s sg 0 i v.natAbs r h hr (.inl rfl)
end Go.Proofs.YtchgjjegcoiepaaDoor
