/- Plain facts on what is scanned and read: digits, bounds. -/
import Derived.Test.YtchgjjegcoiepaaDoorRead
import Derived.Test.YtchgjjegcoiepaaDoorDigit
namespace Go.Proofs.YtchgjjegcoiepaaDoor

theorem nxt_tab0 : ∀ st : Fin 9, ∀ k : Fin 4, nxt st.1 k.1 ≠ 0 → (st.1 = 6 → k.1 = 0 ∨ k.1 = 3) ∧ (st.1 = 7 ∨ st.1 = 8 → k.1 = 0) ∧ (k.1 = 2 → nxt st.1 k.1 = 6) ∧ (st.1 = 6 ∧ k.1 = 0 → nxt st.1 k.1 = 8) ∧ (st.1 = 6 ∧ k.1 = 3 → nxt st.1 k.1 = 7) ∧ (st.1 = 7 ∨ st.1 = 8 → nxt st.1 k.1 = 8) := by decide
theorem nxt_tab (st : Nat) (hs : st < 9) (k : Nat) (hk : k < 4) (h : nxt st k ≠ 0) : (st = 6 → k = 0 ∨ k = 3) ∧ (st = 7 ∨ st = 8 → k = 0) ∧ (k = 2 → nxt st k = 6) ∧ (st = 6 ∧ k = 0 → nxt st k = 8) ∧ (st = 6 ∧ k = 3 → nxt st k = 7) ∧ (st = 7 ∨ st = 8 → nxt st k = 8) :=
  nxt_tab0 ⟨st, hs⟩ ⟨k, hk⟩ h
theorem stops_no {sg : Bool} {st k : Nat} (hk : k < 5) (h : stops sg st k = false) : k < 4 ∧ nxt st k ≠ 0 := by
  unfold stops at h
  simp only [Bool.or_eq_false_iff, beq_eq_false_iff_ne] at h
  exact ⟨by omega, h.2⟩

/-- behind an exponent's first digit, or its sign, digits alone. -/
theorem scan_tail (s : ByteArray) (sg : Bool) (e : Nat) : ∀ (d i st : Nat), s.size - i = d → i ≤ s.size → (st = 7 ∨ st = 8) → scanGo s sg i st = (s.size, e) → ∀ j, i ≤ j → j < s.size → kd (bAt s j) = 0 := by
  intro d
  induction d with
  | zero => intro i st hd hi _ _ j h1 h2; omega
  | succ d ih =>
    intro i st hd hi hst h j h1 h2
    rw [scanGo] at h
    by_cases hc : i < s.size ∧ stops sg st (kd (bAt s i)) = false
    · rw [if_pos hc] at h
      obtain ⟨k4, kn⟩ := stops_no (kd_lt _) hc.2
      obtain ⟨_, t2, _, _, _, t6⟩ := nxt_tab st (by omega) _ k4 kn
      by_cases hj : j = i
      · subst hj; exact t2 hst
      · exact ih (i + 1) _ (by omega) (by omega) (.inr (t6 hst)) h j (by omega) h2
    · rw [if_neg hc] at h
      have := congrArg Prod.fst h
      dsimp only at this
      omega

theorem scan_good (s : ByteArray) (sg : Bool) (e : Nat) (he : endL.getD e 0 = 1) : ∀ (d i st : Nat), s.size - i = d → i ≤ s.size → st < 9 → scanGo s sg i st = (s.size, e) →
    ∀ j, i ≤ j → j < s.size → kd (bAt s j) = 2 → j + 1 < s.size ∧ (kd (bAt s (j + 1)) = 0 ∨ kd (bAt s (j + 1)) = 3) ∧ ∀ k, j + 1 < k → k < s.size → kd (bAt s k) = 0 := by
  intro d
  induction d with
  | zero => intro i st hd hi _ _ j h1 h2; omega
  | succ d ih =>
    intro i st hd hi hst h j h1 h2 hj2
    rw [scanGo] at h
    by_cases hc : i < s.size ∧ stops sg st (kd (bAt s i)) = false
    · rw [if_pos hc] at h
      obtain ⟨k4, kn⟩ := stops_no (kd_lt _) hc.2
      obtain ⟨_, _, t3, _, _, _⟩ := nxt_tab st hst _ k4 kn
      by_cases hj : j = i
      · subst hj
        rw [t3 hj2] at h
        rw [scanGo] at h
        by_cases hc2 : j + 1 < s.size ∧ stops sg 6 (kd (bAt s (j + 1))) = false
        · rw [if_pos hc2] at h
          obtain ⟨k4', kn'⟩ := stops_no (kd_lt _) hc2.2
          obtain ⟨u1, _, _, u4, u5, _⟩ := nxt_tab 6 (by omega) _ k4' kn'
          refine ⟨hc2.1, u1 rfl, fun k h3 h4 => ?_⟩
          have hn : nxt 6 (kd (bAt s (j + 1))) = 7 ∨ nxt 6 (kd (bAt s (j + 1))) = 8 := by
            rcases u1 rfl with h0 | h0
            · exact .inr (u4 ⟨rfl, h0⟩)
            · exact .inl (u5 ⟨rfl, h0⟩)
          exact scan_tail s sg e _ (j + 2) _ rfl (by omega) hn h k (by omega) h4
        · rw [if_neg hc2] at h
          have := congrArg Prod.snd h
          dsimp only at this
          rw [← this] at he
          simp [endL] at he
      · exact ih (i + 1) _ (by omega) (by omega) (nxt_lt _ _) h j (by omega) h2 hj2
    · rw [if_neg hc] at h
      have := congrArg Prod.fst h
      dsimp only at this
      omega
theorem good_of_scan {s : ByteArray} (h1 : (scanGo s true 0 0).1 = s.size) (h2 : endL.getD (scanGo s true 0 0).2 0 = 1) : GoodE s := by
  intro j hj hk
  exact scan_good s true (scanGo s true 0 0).2 h2 s.size 0 0 (by omega) (by omega) (by omega) (by rw [← h1]) j (by omega) hj hk

theorem pwGo_le (s : ByteArray) : ∀ (d i p : Nat), s.size - i = d → p ≤ 1099511627776 → pwGo s i p ≤ 1099511627776 := by
  intro d
  induction d with
  | zero => intro i p hd hp; rw [pwGo, if_neg (by omega)]; exact hp
  | succ d ih => intro i p hd hp; rw [pwGo, if_pos (by omega)]; exact ih (i + 1) _ (by omega) (Nat.min_le_right _ _)

structure DnOk (n : Nat) (D : Dn) : Prop where
  d9 : ∀ x ∈ D.ds, x ≤ 9
  len : D.ds.length ≤ n
  p1 : -(n : Int) ≤ D.pt
  p2 : D.pt ≤ n
theorem digIn_ok {n : Nat} {D : Dn} (h : DnOk n D) (seen : Bool) {c : Nat} (hc : 48 ≤ c ∧ c ≤ 57) : DnOk (n + 1) (digIn seen c D) := by
  obtain ⟨a, b, c1, d⟩ := h
  unfold digIn
  dsimp only
  refine ⟨?_, ?_, ?_, ?_⟩
  · dsimp only
    intro x hx
    split at hx
    · rcases List.mem_append.1 hx with h | h
      · exact a x h
      · simp at h; omega
    · exact a x hx
  · dsimp only; split
    · rw [List.length_append]; simp; omega
    · omega
  · dsimp only; (repeat' split) <;> omega
  · dsimp only; (repeat' split) <;> omega
theorem rdGo_ok (s : ByteArray) : ∀ (d i : Nat) (seen : Bool) (D : Dn) (down : Bool) (pw n : Nat), s.size - i = d → DnOk n D → pw ≤ 1099511627776 →
    DnOk (n + d) (rdGo s i seen D down pw).1 ∧ (rdGo s i seen D down pw).2.2 ≤ 1099511627776 := by
  intro d
  induction d with
  | zero =>
    intro i seen D down pw n hd h hp
    rw [rdGo, if_neg (by omega)]
    exact ⟨h, hp⟩
  | succ d ih =>
    intro i seen D down pw n hd h hp
    have up : ∀ m, DnOk m D → DnOk (m + 1) D := fun m ⟨a, b, c, e⟩ => ⟨a, by omega, by omega, by omega⟩
    have e : n + (d + 1) = n + 1 + d := by omega
    rw [rdGo, if_pos (by omega), e]
    split
    · rename_i h0; exact ih (i + 1) _ _ _ _ (n + 1) (by omega) (digIn_ok h seen (kd0.1 h0)) hp
    · split
      · exact ih (i + 1) _ _ _ _ (n + 1) (by omega) (up n h) hp
      · split
        · exact ih (i + 1) _ _ _ _ (n + 1) (by omega) (by obtain ⟨a, b, c, e⟩ := up n h; exact ⟨a, b, c, e⟩) hp
        · split
          · have h' : DnOk (n + 1 + d) D := by obtain ⟨a, b, c, e⟩ := h; exact ⟨a, by omega, by omega, by omega⟩
            split
            · exact ⟨h', pwGo_le s _ _ _ rfl hp⟩
            · exact ⟨h', pwGo_le s _ _ _ rfl hp⟩
          · exact ih (i + 1) _ _ _ _ (n + 1) (by omega) (up n h) hp
theorem trimZ_sub : ∀ (n : Nat) (l : List Nat), l.length = n → (∀ x ∈ trimZ l, x ∈ l) ∧ (trimZ l).length ≤ l.length := by
  intro n
  induction n with
  | zero => intro l h; rw [trimZ, if_neg (by omega)]; exact ⟨fun x h => h, Nat.le_refl _⟩
  | succ n ih =>
    intro l h
    rw [trimZ]
    split
    · obtain ⟨a, b⟩ := ih (l.take (l.length - 1)) (by rw [List.length_take]; omega)
      rw [List.length_take] at b
      exact ⟨fun x hx => List.mem_of_mem_take (a x hx), by omega⟩
    · exact ⟨fun x h => h, Nat.le_refl _⟩
theorem readF_ok (s : ByteArray) (hs : s.size ≤ 140737488351232) : (∀ x ∈ (readF s).ds, x ≤ 9) ∧ (readF s).ds.length ≤ 140737488351232 ∧ -200000000000000 ≤ (readF s).pt ∧ (readF s).pt ≤ 200000000000000 := by
  obtain ⟨⟨a, b, c, d⟩, e⟩ := rdGo_ok s s.size 0 false ⟨false, [], 0⟩ false 0 0 (by omega) ⟨by simp, by simp, by simp, by simp⟩ (by omega)
  obtain ⟨t1, t2⟩ := trimZ_sub _ (rdGo s 0 false ⟨false, [], 0⟩ false 0).1.ds rfl
  unfold readF readR
  dsimp only
  refine ⟨fun x hx => a x (t1 x hx), by omega, ?_, ?_⟩ <;> split <;> omega

/-- digits as a number. -/
def numD (D : Dn) (i : Int) : Nat → Nat
  | 0 => 0
  | n + 1 => 10 * numD D i n + digN D (i + n)
theorem digN_le {D : Dn} (h : ∀ x ∈ D.ds, x ≤ 9) (i : Int) : digN D i ≤ 9 := by
  unfold digN
  split
  · by_cases hl : (D.pt + i - 1).toNat < D.ds.length
    · rw [List.getD, List.getElem?_eq_getElem hl]; exact h _ (List.getElem_mem hl)
    · rw [List.getD, List.getElem?_eq_none (by omega)]; simp
  · omega
theorem numD_lt {D : Dn} (h : ∀ x ∈ D.ds, x ≤ 9) (i : Int) : ∀ n, numD D i n < 10 ^ n
  | 0 => by simp [numD]
  | n + 1 => by
    have h1 := numD_lt h i n
    have h2 := digN_le h (i + n)
    rw [numD, Nat.pow_succ]
    omega
/-- what a number's text comes to: the number, the error. -/
def parseD (D : Dn) : Int × Nat :=
  if 5 < D.pt ∧ 0 < D.ds.length then (0, 2) else
  let b := numD D 1 17 * 65536
  let v := numD D (-4) 5 * 65536 + b / 100000000000000000
  let v' := if 50000000000000000 < b % 100000000000000000 ∨ (b % 100000000000000000 = 50000000000000000 ∧ ((0 < D.ds.length ∧ D.pt + 17 < D.ds.length) ∨ D.below = false)) then v + 1 else v
  if 4294967296 ≤ v' then (0, 2) else if D.below then (-(v' : Int), 0) else (v', 0)
def scanOk (s : ByteArray) : Bool := decide (endL.getD (scanGo s true 0 0).2 0 = 1) && (scanGo s true 0 0).1 == s.size
def parseF (s : ByteArray) : Int × Nat := if scanOk s then parseD (readF s) else (0, 3)
end Go.Proofs.YtchgjjegcoiepaaDoor
