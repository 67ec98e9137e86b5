/- A NUMBER THAT WAS PRINTED IS READ AS IT WAS, second part: its value. -/
import Derived.Test.YtchgjjegcoiepaaDoorNum
namespace Go.Proofs.YtchgjjegcoiepaaDoor
open Go.RowKit

def vals (X : List UInt8) : List Nat := X.map fun x => x.toNat - 48
def dropZ (Z : List Nat) : List Nat := Z.dropWhile (· == 0)
theorem dropZ_snoc (Z : List Nat) (d : Nat) : dropZ (Z ++ [d]) = if d ≠ 0 ∨ dropZ Z ≠ [] then dropZ Z ++ [d] else [] := by
  unfold dropZ
  rw [List.dropWhile_append]
  by_cases h : List.dropWhile (· == 0) Z = []
  · rw [h]
    by_cases hd : d = 0
    · subst hd; simp
    · simp [hd]
  · have : (List.dropWhile (fun x => x == 0) Z).isEmpty = false := by simpa using h
    rw [this]; simp [h]
theorem dropZ_split (Z : List Nat) : ∃ m, Z = List.replicate m 0 ++ dropZ Z := by
  induction Z with
  | nil => exact ⟨0, rfl⟩
  | cons z Z ih =>
    by_cases h : z = 0
    · subst h
      obtain ⟨m, e⟩ := ih
      refine ⟨m + 1, ?_⟩
      have : dropZ (0 :: Z) = dropZ Z := by simp [dropZ]
      rw [this, List.replicate_succ, List.cons_append, ← e]
    · exact ⟨0, by simp [dropZ, h]⟩
theorem gd_left (X Y : List Nat) (k : Nat) (h : k < X.length) : (X ++ Y).getD k 0 = X.getD k 0 := by
  simp only [List.getD]; rw [List.getElem?_append_left h]
theorem gd_right (X Y : List Nat) (k : Nat) (h : X.length ≤ k) : (X ++ Y).getD k 0 = Y.getD (k - X.length) 0 := by
  simp only [List.getD]; rw [List.getElem?_append_right h]
def zg (Z : List Nat) (k : Int) : Nat := if 0 ≤ k then Z.getD k.toNat 0 else 0
theorem zg_nat (Z : List Nat) (k : Nat) : zg Z k = Z.getD k 0 := by simp [zg]
theorem zg_neg (Z : List Nat) (k : Int) (h : k < 0) : zg Z k = 0 := by unfold zg; rw [if_neg (by omega)]
theorem zg_rep (m : Nat) (Y : List Nat) (k : Int) : zg (List.replicate m 0 ++ Y) (m + k) = zg Y k := by
  unfold zg
  by_cases h : 0 ≤ k
  · rw [if_pos h, if_pos (by omega), gd_right _ _ _ (by simp; omega)]
    congr 1; simp; omega
  · rw [if_neg h]
    by_cases h2 : 0 ≤ (m : Int) + k
    · rw [if_pos h2, gd_left _ _ _ (by simp; omega)]
      simp only [List.getD, List.getElem?_replicate]
      split <;> rfl
    · rw [if_neg h2]
theorem zg_left (X Y : List Nat) (k : Int) (h : k < X.length) : zg (X ++ Y) k = zg X k := by
  unfold zg
  by_cases h0 : 0 ≤ k
  · rw [if_pos h0, if_pos h0, gd_left _ _ _ (by omega)]
  · rw [if_neg h0, if_neg h0]
theorem zg_right (X Y : List Nat) (k : Nat) : zg (X ++ Y) ((X.length : Int) + k) = Y.getD k 0 := by
  unfold zg
  rw [if_pos (by omega), gd_right _ _ _ (by omega)]
  congr 1; omega
theorem trimZ_getD : ∀ (n : Nat) (l : List Nat), l.length = n → ∀ k, (trimZ l).getD k 0 = l.getD k 0 := by
  intro n
  induction n with
  | zero =>
    intro l hl k
    rw [trimZ, if_neg (by omega)]
  | succ n ih =>
    intro l hl k
    rw [trimZ]
    split
    · rename_i h
      rw [ih _ (by rw [List.length_take]; omega)]
      rcases Nat.lt_trichotomy k (l.length - 1) with h1 | h1 | h1
      · simp only [List.getD]; rw [List.getElem?_take_of_lt h1]
      · subst h1
        rw [h.2]
        simp only [List.getD]
        rw [List.getElem?_eq_none (by rw [List.length_take]; omega)]; rfl
      · simp only [List.getD]
        rw [List.getElem?_eq_none (by rw [List.length_take]; omega), List.getElem?_eq_none (by omega)]
    · rfl

def DI (Z : List Nat) (q : Nat) (b : Bool) : Dn := ⟨b, dropZ Z, ((dropZ Z).length : Int) - q⟩
theorem DI_step (Z : List Nat) (q : Nat) (b seen : Bool) (c : Nat) (hc : 48 ≤ c) (hq : seen = false → q = 0) : digIn seen c (DI Z q b) = DI (Z ++ [c - 48]) (if seen then q + 1 else q) b := by
  unfold digIn DI
  dsimp only
  have e : (c ≠ 48 ∨ dropZ Z ≠ []) ↔ (c - 48 ≠ 0 ∨ dropZ Z ≠ []) := by
    constructor
    · rintro (h | h); exact .inl (by omega); exact .inr h
    · rintro (h | h); exact .inl (by omega); exact .inr h
  rw [dropZ_snoc]
  by_cases h : c - 48 ≠ 0 ∨ dropZ Z ≠ []
  · rw [if_pos (e.2 h), if_pos h]
    cases seen <;> simp
    all_goals omega
  · rw [if_neg (fun h' => h (e.1 h')), if_neg h]
    have h0 : dropZ Z = [] := by
      rcases Classical.em (dropZ Z = []) with h' | h'
      · exact h'
      · exact absurd (.inr h') h
    rw [h0]
    cases seen <;> simp
    all_goals omega
theorem rd_run (s : ByteArray) (seen b down : Bool) (pw : Nat) : ∀ (X : List UInt8) (i : Nat) (r : List UInt8) (Z : List Nat) (q : Nat), Dig X → from_ s i = X ++ r → (seen = false → q = 0) →
    rdGo s i seen (DI Z q b) down pw = rdGo s (i + X.length) seen (DI (Z ++ vals X) (if seen then q + X.length else q) b) down pw
  | [], i, r, Z, q, _, _, _ => by cases seen <;> simp [vals]
  | x :: X, i, r, Z, q, hX, h, hq => by
    obtain ⟨h1, h2, h3⟩ := bAt_drop h
    have hk : kd (bAt s i) = 0 := by rw [h2]; exact kd_dig hX.head
    rw [rdGo, if_pos h1, if_pos hk, h2, DI_step Z q b seen _ hX.head.1 hq]
    rw [rd_run s seen b down pw X (i + 1) r _ _ hX.tail h3 (by cases seen <;> simp; exact hq rfl)]
    cases seen
    · simp [vals]; congr 1; omega
    · simp [vals]
      have e1 : i + 1 + X.length = i + (X.length + 1) := by omega
      have e2 : q + 1 + X.length = q + (X.length + 1) := by omega
      rw [e1, e2]
theorem rd_end (s : ByteArray) (i : Nat) (seen : Bool) (D : Dn) (down : Bool) (pw : Nat) (h : from_ s i = []) : rdGo s i seen D down pw = (D, down, pw) := by
  rw [rdGo, if_neg (by have := size_drop h; omega)]
theorem rd_unsg (s : ByteArray) (i n : Nat) (b : Bool) (h : from_ s i = unsg n) :
    ∃ q, q = (frac 16 (n % 65536)).length ∧ rdGo s i false ⟨b, [], 0⟩ false 0 = (DI (vals (Lib.decDigits (n / 65536)) ++ vals (frac 16 (n % 65536))) q b, false, 0) := by
  obtain ⟨hD, hl⟩ := dec_dig (n / 65536)
  unfold unsg at h
  have e0 : (⟨b, [], 0⟩ : Dn) = DI [] 0 b := by simp [DI, dropZ]
  have e1 := rd_run s false b false 0 _ i _ [] 0 hD h (fun _ => rfl)
  rw [List.nil_append] at e1
  have h2 := drop_more h
  refine ⟨_, rfl, ?_⟩
  rw [e0, e1]
  by_cases hf : n % 65536 = 0
  · rw [if_pos hf] at h2
    rw [rd_end _ _ _ _ _ _ h2, hf]
    simp [frac, vals]
  · rw [if_neg hf] at h2
    obtain ⟨g1, g2, g3⟩ := bAt_drop h2
    have hF := frac_dig 16 (n % 65536) (by omega)
    rw [rdGo, if_pos g1, g2, if_neg (by decide), if_pos (by decide)]
    have e2 := rd_run s true b false 0 (frac 16 (n % 65536)) _ [] (vals (Lib.decDigits (n / 65536))) 0 hF (by rw [List.append_nil]; exact g3) (fun h => by cases h)
    simp only [Bool.false_eq_true, if_false]
    rw [e2, rd_end _ _ _ _ _ _ (drop_more (by rw [List.append_nil]; exact g3))]
    simp
theorem digN_DI (Z : List Nat) (q : Nat) (b : Bool) (i : Int) : digN (readR (DI Z q b, false, 0)) i = zg Z ((Z.length : Int) - q + i - 1) := by
  obtain ⟨m, e⟩ := dropZ_split Z
  unfold digN readR DI
  dsimp only
  have hlen : (Z.length : Int) = m + (dropZ Z).length := by
    have := congrArg List.length e; simp at this; omega
  rw [show ((Z.length : Int) - q + i - 1) = m + (((dropZ Z).length : Int) - q + i - 1) from by omega]
  have ez : zg Z ((m : Int) + (((dropZ Z).length : Int) - q + i - 1)) = zg (dropZ Z) (((dropZ Z).length : Int) - q + i - 1) := by
    generalize hk : ((dropZ Z).length : Int) - q + i - 1 = k
    generalize dropZ Z = Y at e
    rw [e, zg_rep]
  rw [ez]
  unfold zg
  simp only [Bool.false_eq_true, if_false]
  rw [show (((dropZ Z).length : Int) - q + ((0 : Nat) : Int) + i - 1) = ((dropZ Z).length : Int) - q + i - 1 from by omega]
  split
  · rw [trimZ_getD _ _ rfl]
  · rfl

def nz (f : Nat → Nat) : Nat → Nat
  | 0 => 0
  | n + 1 => 10 * nz f n + f n
theorem nz_congr {f g : Nat → Nat} : ∀ n, (∀ j, j < n → f j = g j) → nz f n = nz g n
  | 0, _ => rfl
  | n + 1, h => by rw [nz, nz, nz_congr n (fun j hj => h j (by omega)), h n (by omega)]
theorem nz_zero : ∀ n, nz (fun _ => 0) n = 0
  | 0 => rfl
  | n + 1 => by rw [nz, nz_zero n]
theorem nz_front (f : Nat → Nat) : ∀ n, nz f (n + 1) = f 0 * 10 ^ n + nz (fun j => f (j + 1)) n
  | 0 => by simp [nz]
  | n + 1 => by
    rw [nz, nz_front f n, nz, Nat.pow_succ, Nat.mul_add]
    have : 10 * (f 0 * 10 ^ n) = f 0 * (10 ^ n * 10) := by rw [Nat.mul_comm 10, Nat.mul_assoc]
    omega
theorem numD_nz (D : Dn) (i : Int) (f : Nat → Nat) : ∀ n : Nat, (∀ j : Nat, j < n → digN D (i + (j : Int)) = f j) → numD D i n = nz f n
  | 0, _ => rfl
  | n + 1, h => by rw [numD, nz, numD_nz D i f n (fun j hj => h j (by omega)), h n (by omega)]
theorem val_dig (d : Nat) (h : d < 10) : (UInt8.ofNat (48 + d)).toNat - 48 = d := by rw [ofNat_digit d h]; omega
theorem dec_snoc (n : Nat) : ∃ W, vals (Lib.decDigits n) = vals W ++ [n % 10] ∧ (10 ≤ n → W = Lib.decDigits (n / 10)) ∧ (n < 10 → W = []) := by
  rw [Lib.decDigits]
  split
  · rename_i h
    refine ⟨[], ?_, by omega, fun _ => rfl⟩
    simp only [vals, List.map_cons, List.map_nil, List.nil_append]
    rw [val_dig n h, Nat.mod_eq_of_lt h]
  · rename_i h
    refine ⟨Lib.decDigits (n / 10), ?_, fun _ => rfl, by omega⟩
    simp only [vals, List.map_append, List.map_cons, List.map_nil]
    rw [val_dig _ (by omega)]
theorem dec_nz : ∀ (a n : Nat), n < 10 ^ a → nz (fun j => zg (vals (Lib.decDigits n)) (((vals (Lib.decDigits n)).length : Int) - a + j)) a = n
  | 0, n, h => by simp at h; subst h; rfl
  | a + 1, n, h => by
    obtain ⟨W, e, e1, e2⟩ := dec_snoc n
    rw [e, nz]
    have hl : (((vals W ++ [n % 10]).length : Nat) : Int) - ((a + 1 : Nat) : Int) + (a : Int) = ((vals W).length : Int) + ((0 : Nat) : Int) := by simp; omega
    rw [hl, zg_right]
    have hc : nz (fun j => zg (vals W ++ [n % 10]) (((vals W ++ [n % 10]).length : Int) - ((a + 1 : Nat) : Int) + (j : Int))) a = nz (fun j => zg (vals W) (((vals W).length : Int) - a + j)) a := by
      apply nz_congr
      intro j hj
      have hl2 : (((vals W ++ [n % 10]).length : Nat) : Int) - ((a + 1 : Nat) : Int) + (j : Int) = ((vals W).length : Int) - a + j := by simp; omega
      rw [hl2, zg_left _ _ _ (by omega)]
    rw [hc]
    rcases Nat.lt_or_ge n 10 with h10 | h10
    · rw [e2 h10]
      have : nz (fun j => zg (vals []) (((vals []).length : Int) - a + j)) a = 0 := by
        rw [← nz_zero a]
        apply nz_congr
        intro j hj
        unfold zg
        split <;> simp [vals]
      rw [this]; simp; omega
    · rw [e1 h10, dec_nz a (n / 10) (by rw [Nat.pow_succ] at h; omega)]
      simp; omega
theorem dec_len : ∀ (a n : Nat), 0 < a → n < 10 ^ a → (Lib.decDigits n).length ≤ a
  | 0, n, h0, h => by omega
  | a + 1, n, _, h => by
    rw [Lib.decDigits]
    split
    · simp
    · have := dec_len a (n / 10) (by rcases a with _ | a; · simp at h; omega
                                     · omega) (by rw [Nat.pow_succ] at h; omega)
      simp; omega
theorem frac_nz : ∀ (n k r : Nat), k ≤ 16 → 2 ^ (16 - k) ∣ r → r < 65536 → nz (fun j => (vals (frac k r)).getD j 0) n = r * 10 ^ n / 65536
  | 0, k, r, _, _, h => by simp [nz]; omega
  | n + 1, 0, r, _, hd, h => by
    have : r = 0 := by
      rcases Nat.eq_zero_or_pos r with h' | h'
      · exact h'
      · have := Nat.le_of_dvd h' hd; simp at this; omega
    subst this
    have := nz_zero (n + 1)
    simpa [frac, vals] using this
  | n + 1, k + 1, r, hk, hd, h => by
    by_cases h0 : r = 0
    · subst h0
      have := nz_zero (n + 1)
      simpa [frac, vals] using this
    · have e : vals (frac (k + 1) r) = (r * 10 / 65536) :: vals (frac k (r * 10 % 65536)) := by
        rw [frac, if_neg h0]
        simp only [vals, List.map_cons]
        rw [show UInt8.ofNat (48 + r * 10 / 65536) = UInt8.ofNat (48 + (r * 10 / 65536)) from rfl, val_dig _ (by omega)]
      have hd2 : 2 ^ (16 - k) ∣ r * 10 % 65536 := by
        rw [show (65536 : Nat) = 2 ^ 16 from rfl, Nat.dvd_mod_iff (Nat.pow_dvd_pow 2 (by omega)), show 16 - k = (16 - (k + 1)) + 1 from by omega, Nat.pow_succ]
        exact Nat.mul_dvd_mul hd (by decide)
      have ih := frac_nz n k (r * 10 % 65536) (by omega) hd2 (by omega)
      rw [e, nz_front]
      simp only [List.getD_cons_zero, List.getD_cons_succ]
      rw [ih]
      have h3 : r * 10 ^ (n + 1) = 65536 * (r * 10 / 65536 * 10 ^ n) + r * 10 % 65536 * 10 ^ n := by
        rw [← Nat.mul_assoc, ← Nat.add_mul, Nat.div_add_mod, Nat.pow_succ, Nat.mul_comm (10 ^ n) 10, Nat.mul_assoc]
      rw [h3, Nat.mul_add_div (by decide)]

theorem parseD_prL (D : Dn) (v : Int) (h1 : -4294967296 < v) (h2 : v < 4294967296) (hb : D.below = decide (v < 0)) (hp : D.pt ≤ 5) (hi : numD D (-4) 5 = v.natAbs / 65536) (hf : numD D 1 17 = v.natAbs % 65536 * 10 ^ 17 / 65536) : parseD D = (v, 0) := by
  unfold parseD
  rw [if_neg (by omega), hi, hf]
  obtain ⟨n, hn⟩ : ∃ n, v.natAbs = n := ⟨_, rfl⟩
  rw [hn]
  have e1 : n % 65536 * 10 ^ 17 / 65536 * 65536 = n % 65536 * 100000000000000000 := by
    rw [show (10 : Nat) ^ 17 = 65536 * 1525878906250 + 0 * 1 + 0 from by decide]
    omega
  dsimp only
  rw [e1]
  rw [Nat.mul_div_cancel _ (by decide), Nat.mul_mod_left]
  have hno : ¬ ((50000000000000000 : Nat) < 0 ∨ (0 : Nat) = 50000000000000000 ∧ (0 < D.ds.length ∧ D.pt + 17 < D.ds.length ∨ D.below = false)) := by
    rintro (h | ⟨h, _⟩) <;> omega
  rw [if_neg hno, if_neg (by omega), hb]
  by_cases h : v < 0
  · simp [h]; omega
  · simp [h]; omega
theorem parseF_prL (v : Int) (h1 : -4294967296 < v) (h2 : v < 4294967296) : parseF (prF v) = (v, 0) := by
  have h0 : from_ (prF v) 0 = prL v ++ [] := by simp [prF]
  have hs : (prF v).size = (prL v).length := by simp [prF, ByteArray.size]
  obtain ⟨st, e1, e2⟩ := scan_prL (prF v) true 0 v [] h0 (fun b r' h => by cases h) (fun _ => rfl)
  have hok : scanOk (prF v) = true := by
    unfold scanOk
    rw [e1]
    dsimp only
    rw [e2, Nat.zero_add, hs]
    simp
  unfold parseF
  rw [if_pos hok]
  obtain ⟨n, hn⟩ : ∃ n, v.natAbs = n := ⟨_, rfl⟩
  have hN : n / 65536 < 10 ^ 5 := by simp; omega
  have hrd : ∃ q, q = (frac 16 (n % 65536)).length ∧ rdGo (prF v) 0 false ⟨false, [], 0⟩ false 0 = (DI (vals (Lib.decDigits (n / 65536)) ++ vals (frac 16 (n % 65536))) q (decide (v < 0)), false, 0) := by
    rw [List.append_nil, prL_eq, hn] at h0
    by_cases h : v < 0
    · rw [if_pos h] at h0
      obtain ⟨g1, g2, g3⟩ := bAt_drop h0
      rw [rdGo, if_pos g1, g2, if_neg (by decide), if_neg (by decide), if_pos (by decide)]
      have := rd_unsg (prF v) 1 n true g3
      simpa [h] using this
    · rw [if_neg h, List.nil_append] at h0
      have := rd_unsg (prF v) 0 n false h0
      simpa [h] using this
  obtain ⟨q, hq, hr⟩ := hrd
  unfold readF
  rw [hr]
  have hql : (vals (frac 16 (n % 65536))).length = q := by rw [hq]; simp [vals]
  refine parseD_prL _ v h1 h2 rfl ?_ ?_ ?_
  · show ((dropZ _).length : Int) - q + _ ≤ 5
    obtain ⟨m, e⟩ := dropZ_split (vals (Lib.decDigits (n / 65536)) ++ vals (frac 16 (n % 65536)))
    have e' := congrArg List.length e
    have hd := dec_len 5 (n / 65536) (by decide) hN
    have hv : (vals (Lib.decDigits (n / 65536))).length = (Lib.decDigits (n / 65536)).length := by simp [vals]
    rw [List.length_append, List.length_append, List.length_replicate, hql, hv] at e'
    simp
    omega
  · rw [hn]
    refine (numD_nz _ _ _ 5 ?_).trans (dec_nz 5 (n / 65536) hN)
    intro j hj
    rw [digN_DI, List.length_append, hql]
    have e : (((vals (Lib.decDigits (n / 65536))).length + q : Nat) : Int) - q + (-4 + (j : Int)) - 1 = ((vals (Lib.decDigits (n / 65536))).length : Int) - ((5 : Nat) : Int) + j := by omega
    rw [e, zg_left _ _ _ (by omega)]
  · rw [hn]
    refine (numD_nz _ _ _ 17 ?_).trans (frac_nz 17 16 (n % 65536) (by omega) (Nat.one_dvd _) (by omega))
    intro j hj
    rw [digN_DI, List.length_append, hql]
    have e : (((vals (Lib.decDigits (n / 65536))).length + q : Nat) : Int) - q + (1 + (j : Int)) - 1 = ((vals (Lib.decDigits (n / 65536))).length : Int) + j := by omega
    rw [e, zg_right]
end Go.Proofs.YtchgjjegcoiepaaDoor
