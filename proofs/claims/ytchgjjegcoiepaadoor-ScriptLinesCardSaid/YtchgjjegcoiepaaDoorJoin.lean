/- COMMANDS THAT WERE PRINTED ARE PARSED AS THEY WERE: plain lists, no program. -/
import Derived.Test.YtchgjjegcoiepaaDoorNum2
import Derived.Test.YtchgjjegcoiepaaDoorGreat
namespace Go.Proofs.YtchgjjegcoiepaaDoor
open Go.RowKit

/-- what the table says of a letter. -/
def LetOk (c : Nat) : Bool := match ofF c with
  | none => decide (cntR c = -1)
  | some (L, A) => decide (kd c = 4) && !isBl c && decide (c ≠ 44 ∧ ¬ (48 ≤ c ∧ c ≤ 57) ∧ c ≠ 46 ∧ c ≠ 43 ∧ c ≠ 45 ∧ capF c = L ∧ cntR c = (A.size : Int)) &&
      decide (∀ k : Fin 7, k.1 < A.size → (bAt A k.1 = 110 ∨ bAt A k.1 = 117 ∨ bAt A k.1 = 103 ∨ bAt A k.1 = 102) ∧ (bAt A k.1 = 117 ↔ arcF c = true ∧ k.1 < 2) ∧ (bAt A k.1 = 103 ∨ bAt A k.1 = 102 ↔ arcF c = true ∧ (k.1 = 3 ∨ k.1 = 4)) ∧ (k.1 = 0 → bAt A 0 ≠ 103))
theorem let_all : ∀ c : Fin 256, LetOk c.1 = true := by decide +kernel
theorem let_none {c : Nat} (hc : c < 256) (h : ofF c = none) : cntR c = -1 := by
  have := let_all ⟨c, hc⟩
  unfold LetOk at this
  rw [h] at this
  simpa using this
theorem let_some {c L : Nat} {A : ByteArray} (hc : c < 256) (h : ofF c = some (L, A)) :
    kd c = 4 ∧ isBl c = false ∧ c ≠ 44 ∧ ¬ (48 ≤ c ∧ c ≤ 57) ∧ c ≠ 46 ∧ c ≠ 43 ∧ c ≠ 45 ∧ capF c = L ∧ cntR c = (A.size : Int) ∧
      ∀ k, k < A.size → (bAt A k = 110 ∨ bAt A k = 117 ∨ bAt A k = 103 ∨ bAt A k = 102) ∧ (bAt A k = 117 ↔ arcF c = true ∧ k < 2) ∧ (bAt A k = 103 ∨ bAt A k = 102 ↔ arcF c = true ∧ (k = 3 ∨ k = 4)) ∧ (k = 0 → bAt A 0 ≠ 103) := by
  have := let_all ⟨c, hc⟩
  unfold LetOk at this
  rw [h] at this
  simp only [Bool.and_eq_true, decide_eq_true_iff, Bool.not_eq_true'] at this
  obtain ⟨⟨⟨h1, h2⟩, h3, h4, h5, h6, h7, h8, h9⟩, h10⟩ := this
  have hs := (ofF_size h).1
  exact ⟨h1, h2, h3, h4, h5, h6, h7, h8, h9, fun k hk => h10 ⟨k, by omega⟩ hk⟩

theorem rightP_eq (L : Nat) (xs : List Int) (hL : L < 256) : rightP L xs = rightF L xs := by
  unfold rightP rightF
  cases h : ofF L with
  | none =>
    have := let_none hL h
    dsimp only
    rw [this]
    symm
    rw [decide_eq_false_iff_not]
    rintro ⟨h1, _⟩
    omega
  | some p =>
    obtain ⟨L', A⟩ := p
    obtain ⟨_, _, _, _, _, _, _, _, hn, ht⟩ := let_some hL h
    dsimp only
    rw [hn, Bool.eq_iff_iff, decide_eq_true_iff, decide_eq_true_iff]
    constructor
    · rintro ⟨h1, h2⟩
      refine ⟨by omega, fun j hj => ?_⟩
      have h3 := h2 j hj
      obtain ⟨_, t1, t2, _⟩ := ht j (by omega)
      unfold argP at h3
      unfold argOk
      rw [decide_eq_true_iff] at h3 ⊢
      exact ⟨h3.1, h3.2.1, fun ha => ⟨fun h2 => h3.2.2.1 (t1.2 ⟨ha, h2⟩), fun h2 => h3.2.2.2 (t2.2 ⟨ha, h2⟩)⟩⟩
    · rintro ⟨h1, h2⟩
      refine ⟨by omega, fun j hj => ?_⟩
      have h3 := h2 j hj
      obtain ⟨_, t1, t2, _⟩ := ht j (by omega)
      unfold argOk at h3
      unfold argP
      rw [decide_eq_true_iff] at h3 ⊢
      exact ⟨h3.1, h3.2.1, fun h => (h3.2.2 (t1.1 h).1).1 (t1.1 h).2, fun h => (h3.2.2 (t2.1 h).1).2 (t2.1 h).2⟩
theorem cap77 : ∀ c : Fin 256, (capF c.1 = 77 ↔ c.1 = 77 ∨ c.1 = 109) := by decide +kernel
theorem mayP_eq (l : List Cmd) (hl : ∀ c ∈ l, c.L < 256) : mayP l = mayR l := by
  unfold mayP mayR
  congr 1
  apply propext
  constructor
  · intro h j hj
    have hc := hl _ (List.getElem_mem hj)
    rw [← rightP_eq _ _ hc]
    exact ⟨(h j hj).1, fun h0 => (cap77 ⟨_, hc⟩).1 ((h j hj).2 h0)⟩
  · intro h j hj
    have hc := hl _ (List.getElem_mem hj)
    rw [rightP_eq _ _ hc]
    exact ⟨(h j hj).1, fun h0 => (cap77 ⟨_, hc⟩).2 ((h j hj).2 h0)⟩

/-- a text's piece. -/
theorem piece {s : ByteArray} {i : Nat} {X r : List UInt8} (h : from_ s i = X ++ r) : s.extract i (i + X.length) = ⟨X.toArray⟩ := by
  have e : (s.extract i (i + X.length)).data.toList = X := by
    rw [ByteArray.data_extract, Array.toList_extract]
    unfold from_ at h
    simp only [List.extract_eq_take_drop]
    rw [h, Nat.add_sub_cancel_left, List.take_left]
  generalize s.extract i (i + X.length) = Y at e
  subst e
  rfl
theorem prL_head (v : Int) : ∃ x X, prL v = x :: X ∧ (x.toNat = 45 ∨ (48 ≤ x.toNat ∧ x.toNat ≤ 57)) := by
  rw [prL_eq]
  by_cases h : v < 0
  · rw [if_pos h]; exact ⟨45, _, rfl, .inl rfl⟩
  · rw [if_neg h]
    unfold unsg
    obtain ⟨hD, hl⟩ := dec_dig (v.natAbs / 65536)
    cases hh : Lib.decDigits (v.natAbs / 65536) with
    | nil => rw [hh] at hl; simp at hl
    | cons x X => rw [hh] at hD; exact ⟨x, _, rfl, .inr hD.head⟩

theorem bl_here {s : ByteArray} {i : Nat} {r : List UInt8} (h : from_ s i = r) (hr : ∀ b r', r = b :: r' → isBl b.toNat = false) : blEnd s i = i := by
  rw [blEnd, if_neg]
  rintro ⟨h1, h2⟩
  cases r with
  | nil => have := size_drop h; omega
  | cons b r =>
    rw [(bAt_drop h).2.1, hr b r rfl] at h2
    cases h2
theorem bl_one {s : ByteArray} {i : Nat} {r : List UInt8} (h : from_ s i = 32 :: r) : blEnd s i = blEnd s (i + 1) := by
  obtain ⟨h1, h2, _⟩ := bAt_drop h
  rw [blEnd, if_pos ⟨h1, by rw [h2]; rfl⟩]
theorem num_not_bl {x : UInt8} (h : x.toNat = 45 ∨ (48 ≤ x.toNat ∧ x.toNat ≤ 57)) : isBl x.toNat = false := by
  unfold isBl; simp; omega

/-- one argument. -/
theorem arg_run {s A : ByteArray} {i k : Nat} {v : Int} {r : List UInt8} (h : from_ s i = prL (scl A k v) ++ r) (hr : Stop r) (hv : argP (bAt A k) v = true)
    (hk : bAt A k = 110 ∨ bAt A k = 117 ∨ bAt A k = 103 ∨ bAt A k = 102) : argF s i (bAt A k) = (v, 0, i + (prL (scl A k v)).length) := by
  unfold argP at hv
  rw [decide_eq_true_iff] at hv
  obtain ⟨v1, v2, v3, v4⟩ := hv
  unfold argF
  by_cases hf : bAt A k = 103 ∨ bAt A k = 102
  · rw [if_pos hf]
    have e : scl A k v = v * 65536 := by unfold scl; rw [if_pos hf]
    rw [e] at h ⊢
    rcases v4 hf with rfl | rfl
    · have e0 : prL (0 * 65536) = [48] := by decide +kernel
      rw [e0] at h ⊢
      obtain ⟨g1, g2, _⟩ := bAt_drop h
      rw [if_pos ⟨g1, .inl g2⟩, g2]; rfl
    · have e0 : prL (1 * 65536) = [49] := by decide +kernel
      rw [e0] at h ⊢
      obtain ⟨g1, g2, _⟩ := bAt_drop h
      rw [if_pos ⟨g1, .inr g2⟩, g2]; rfl
  · rw [if_neg hf]
    have e : scl A k v = v := by unfold scl; rw [if_neg hf]
    rw [e] at h ⊢
    obtain ⟨st, e1, e2⟩ := scan_prL s (bAt A k == 110) i v r h hr (fun hn => by
      rcases hk with hk | hk | hk | hk
      · rw [hk]; rfl
      · have := v3 hk; omega
      · exact absurd (.inl hk) hf
      · exact absurd (.inr hk) hf)
    unfold numF
    rw [e1, if_pos e2]
    dsimp only
    have hp : s.extract i (i + (prL v).length) = prF v := piece h
    rw [hp, parseF_prL v v1 v2]
    rfl
theorem stop_32 (r : List UInt8) : Stop (32 :: r) := by
  intro b r' h
  injection h with h1 _
  subst h1
  rfl
theorem argsB_stop (A : ByteArray) (k : Nat) (xs : List Int) (r : List UInt8) (hr : Stop r) : Stop (argsB A k xs ++ r) := by
  cases xs with
  | nil => exact hr
  | cons v xs => exact stop_32 _
/-- the arguments behind the first one. -/
theorem grp_run {s A : ByteArray} {r : List UInt8} (hr : Stop r) (hA : ∀ k, k < A.size → bAt A k = 110 ∨ bAt A k = 117 ∨ bAt A k = 103 ∨ bAt A k = 102) : ∀ (xs : List Int) (k i : Nat) (acc : List Int), 0 < k → k + xs.length = A.size →
    (∀ j, (h : j < xs.length) → argP (bAt A (k + j)) xs[j] = true) → from_ s i = argsB A k xs ++ r → grpGo s A k i acc = (acc ++ xs, 0, i + (argsB A k xs).length)
  | [], k, i, acc, _, hl, _, h => by
    rw [grpGo, if_neg (by simp at hl; omega)]
    simp [argsB]
  | v :: xs, k, i, acc, hk, hl, hv, h => by
    have hl' : k + (xs.length + 1) = A.size := hl
    simp only [argsB, List.cons_append, List.append_assoc] at h
    have h1 := (bAt_drop h).2.2
    have hS := argsB_stop A (k + 1) xs r hr
    have hk0 := hA k (by omega)
    have hv0 := hv 0 (by simp)
    simp only [Nat.add_zero, List.getElem_cons_zero] at hv0
    have ha := arg_run h1 hS hv0 hk0
    obtain ⟨x, X, hx, hx2⟩ := prL_head (scl A k v)
    have hb : blEnd s i = i + 1 := by
      rw [bl_one h]
      refine bl_here h1 (fun b r' e => ?_)
      rw [hx] at e
      injection e with e _
      subst e
      exact num_not_bl hx2
    have hg : gapEnd s i = i + 1 := by
      unfold gapEnd
      rw [hb, if_neg]
      rintro ⟨_, h44⟩
      rw [hx] at h1
      rw [(bAt_drop h1).2.1] at h44
      omega
    have h2 := drop_more h1
    rw [grpGo, if_pos (by omega)]
    dsimp only
    rw [if_pos hk, hg, if_neg (by rintro ⟨_, h'⟩; exact h' ⟨hk, by omega⟩), ha]
    dsimp only
    rw [if_neg (by simp), grp_run hr hA xs (k + 1) _ _ (by omega) (by omega) (fun j hj => by
      have : argP (bAt A (k + (j + 1))) xs[j] = true := hv (j + 1) (by simpa using hj)
      rwa [show k + (j + 1) = k + 1 + j from by omega] at this) h2]
    simp [argsB]
    omega
theorem grp_first {s A : ByteArray} {r : List UInt8} (hr : Stop r) (hA : ∀ k, k < A.size → bAt A k = 110 ∨ bAt A k = 117 ∨ bAt A k = 103 ∨ bAt A k = 102) (h0 : bAt A 0 ≠ 103) (v : Int) (xs : List Int) (i : Nat) (hl : xs.length + 1 = A.size)
    (hv : ∀ j, (h : j < (v :: xs).length) → argP (bAt A j) (v :: xs)[j] = true) (h : from_ s i = prL (scl A 0 v) ++ (argsB A 1 xs ++ r)) : grpGo s A 0 i [] = (v :: xs, 0, i + (prL (scl A 0 v)).length + (argsB A 1 xs).length) := by
  have ha := arg_run h (argsB_stop A 1 xs r hr) (hv 0 (by simp)) (hA 0 (by omega))
  rw [grpGo, if_pos (by omega)]
  dsimp only
  rw [if_neg (fun h' => h0 h'.1), if_neg (Nat.lt_irrefl 0), ha]
  dsimp only
  rw [if_neg (by simp), grp_run hr hA xs 1 _ _ (by omega) (by omega) (fun j hj => by
    have : argP (bAt A (j + 1)) xs[j] = true := hv (j + 1) (by simpa using hj)
    rwa [show j + 1 = 1 + j from by omega] at this) (drop_more h)]
  rfl

/-- what may stand behind a command: nothing, or a letter; a blank ahead of it or not. -/
def Rest (r : List UInt8) : Prop := r = [] ∨ r = [32] ∨ ∃ L r', (ofF L.toNat).isSome = true ∧ (r = L :: r' ∨ r = 32 :: L :: r')
theorem let_of_some {L : UInt8} (h : (ofF L.toNat).isSome = true) : kd L.toNat = 4 ∧ isBl L.toNat = false ∧ L.toNat ≠ 44 ∧ ¬ (48 ≤ L.toNat ∧ L.toNat ≤ 57) ∧ L.toNat ≠ 46 ∧ L.toNat ≠ 43 ∧ L.toNat ≠ 45 := by
  obtain ⟨p, hp⟩ := Option.isSome_iff_exists.1 h
  obtain ⟨L', A⟩ := p
  obtain ⟨a, b, c, d, e, f, g, _⟩ := let_some (UInt8.toNat_lt L) hp
  exact ⟨a, b, c, d, e, f, g⟩
theorem Rest.stop {r : List UInt8} (h : Rest r) : Stop r := by
  intro b r' e
  rcases h with rfl | rfl | ⟨L, r'', hL, rfl | rfl⟩
  · cases e
  · injection e with e _; subst e; rfl
  · injection e with e _; subst e; exact (let_of_some hL).1
  · injection e with e _; subst e; rfl
theorem Rest.fin {s : ByteArray} {j : Nat} {r : List UInt8} (h : Rest r) (hs : from_ s j = r) (hj : j ≤ s.size) :
    j ≤ blEnd s j ∧ blEnd s j ≤ s.size ∧ (blEnd s j < s.size → bAt s (blEnd s j) ≠ 44 ∧ ∀ k, begF (bAt s (blEnd s j)) k = false) := by
  have hbd := blEnd_bd s j hj
  refine ⟨hbd.1, hbd.2, fun hlt => ?_⟩
  have key : ∀ (L : UInt8) (r' : List UInt8) (m : Nat), (ofF L.toNat).isSome = true → from_ s m = L :: r' → blEnd s j = m → bAt s (blEnd s j) ≠ 44 ∧ ∀ k, begF (bAt s (blEnd s j)) k = false := by
    intro L r' m hL hm he
    obtain ⟨_, _, h3, h4, h5, h6, h7⟩ := let_of_some hL
    rw [he, (bAt_drop hm).2.1]
    refine ⟨h3, fun k => ?_⟩
    unfold begF
    have e1 : (decide (48 ≤ L.toNat) && decide (L.toNat ≤ 57)) = false := by
      rw [Bool.eq_false_iff]; intro h'; simp at h'; exact h4 h'
    have e2 : (L.toNat == 46) = false := by simpa using h5
    have e3 : (L.toNat == 43) = false := by simpa using h6
    have e4 : (L.toNat == 45) = false := by simpa using h7
    rw [e1, e2, e3, e4]; simp
  have nb : ∀ (L : UInt8) (r' : List UInt8) (m : Nat), (ofF L.toNat).isSome = true → from_ s m = L :: r' → blEnd s m = m := by
    intro L r' m hL hm
    refine bl_here hm (fun b r'' e => ?_)
    injection e with e _
    subst e
    exact (let_of_some hL).2.1
  rcases h with rfl | rfl | ⟨L, r', hL, rfl | rfl⟩
  · have := size_drop hs
    omega
  · have h1 := (bAt_drop hs).2.2
    have h2 := size_drop h1
    have h3 := bl_one hs
    rw [bl_here h1 (fun b r' e => by cases e)] at h3
    omega
  · exact key L r' j hL hs (nb L r' j hL hs)
  · have h1 := (bAt_drop hs).2.2
    exact key L r' (j + 1) hL h1 ((bl_one hs).trans (nb L r' (j + 1) hL h1))

theorem wk_some (s A : ByteArray) (c i : Nat) (first : Bool) (acc : List Cmd) : wk s (some (A, c)) i first acc =
    (if (grpGo s A 0 i []).2.1 ≠ 0 then (acc, (((grpGo s A 0 i []).2.2 : Nat) : Int), (grpGo s A 0 i []).2.1)
    else if _h : i < (moreF s A (grpGo s A 0 i []).2.2).2 ∧ (moreF s A (grpGo s A 0 i []).2.2).2 ≤ s.size then
      if (moreF s A (grpGo s A 0 i []).2.2).1 then wk s (some (A, if c = 77 ∨ c = 109 then c - 1 else c)) (moreF s A (grpGo s A 0 i []).2.2).2 false (acc ++ [⟨c, (grpGo s A 0 i []).1⟩])
      else wk s none (moreF s A (grpGo s A 0 i []).2.2).2 false (acc ++ [⟨c, (grpGo s A 0 i []).1⟩])
    else ([], 0, 0)) := by
  rw [wk.eq_def s (some (A, c)) i first acc]
theorem cmdB_eq (c : Cmd) : cmdB c = UInt8.ofNat c.L :: argsB (sgOf c.L) 0 c.A := rfl
theorem cmd_run {s : ByteArray} {i : Nat} {c : Cmd} {r : List UInt8} {first : Bool} (acc : List Cmd) (hc : c.L < 256) (hR : rightP c.L c.A = true) (h : from_ s i = cmdB c ++ r) (hr : Rest r) (hf : first = true → capF c.L = 77) :
    wk s none i first acc = wk s none (blEnd s (i + (cmdB c).length)) false (acc ++ [c]) := by
  obtain ⟨L, A, hO, hsg, hl, _, hp⟩ := right_parts hR
  obtain ⟨l1, l2, _, _, _, _, _, hcap, _, hk⟩ := let_some hc hO
  rw [cmdB_eq, hsg] at h ⊢
  have hi : i ≤ s.size := by have := (bAt_drop h).1; omega
  have hsz := drop_size h hi
  rw [List.length_append] at hsz
  have h' := h
  rw [List.cons_append] at h'
  obtain ⟨g1, g2, g3⟩ := bAt_drop h'
  have e0 : (UInt8.ofNat c.L).toNat = c.L := by rw [UInt8.toNat_ofNat']; omega
  rw [e0] at g2
  have hfin := hr.fin (drop_more h) (by omega)
  rw [wk]
  rw [if_pos g1, g2, hO]
  dsimp only
  rw [if_neg (by rintro ⟨h1, h2⟩; exact h2 (hcap ▸ hf h1))]
  obtain ⟨CL, xs⟩ := c
  dsimp only at *
  cases xs with
  | nil =>
    have hA0 : A.size = 0 := by simp at hl; omega
    simp only [argsB, List.length_cons, List.length_nil, Nat.zero_add] at hfin ⊢
    rw [dif_pos ⟨by omega, hfin.2.1⟩, if_pos hA0]
  | cons v xs =>
    have hA0 : A.size ≠ 0 := by simp at hl; omega
    simp only [argsB, List.cons_append, List.append_assoc] at g3
    have g4 := (bAt_drop g3).2.2
    have hb : blEnd s (i + 1) = i + 1 + 1 := by
      rw [bl_one g3]
      obtain ⟨x, X, hx, hx2⟩ := prL_head (scl A 0 v)
      refine bl_here g4 (fun b r' e => ?_)
      rw [hx] at e
      injection e with e _
      subst e
      exact num_not_bl hx2
    have hgl : (argsB A 0 (v :: xs)).length = 1 + (prL (scl A 0 v)).length + (argsB A 1 xs).length := by simp [argsB]; omega
    have hg := grp_first hr.stop (fun k hk' => (hk k hk').1) ((hk 0 (by omega)).2.2.2 rfl) v xs (i + 1 + 1) (by simpa using hl) (fun j hj => hp j hj) g4
    have hj : i + 1 + 1 + (prL (scl A 0 v)).length + (argsB A 1 xs).length = i + (UInt8.ofNat CL :: argsB A 0 (v :: xs)).length := by rw [List.length_cons, hgl]; omega
    rw [hj] at hg
    rw [List.length_cons, hgl] at hsz
    obtain ⟨m, hm⟩ : ∃ m, i + (UInt8.ofNat CL :: argsB A 0 (v :: xs)).length = m := ⟨_, rfl⟩
    rw [hm] at hg hfin ⊢
    rw [List.length_cons, hgl] at hm
    have hpl : 0 < (prL (scl A 0 v)).length := by
      obtain ⟨x, X, hx, _⟩ := prL_head (scl A 0 v)
      rw [hx]; simp
    rw [hb, dif_pos ⟨by omega, by omega⟩, if_neg hA0, wk_some]
    rw [hg]
    have hmo : moreF s A m = (false, blEnd s m) := by
      unfold moreF
      dsimp only
      by_cases hlt : blEnd s m < s.size
      · obtain ⟨q1, q2⟩ := hfin.2.2 hlt
        rw [if_neg (fun h' => q1 h'.2), q2]; simp
      · rw [if_neg (fun h' => hlt h'.1)]; simp [hlt]
    dsimp only
    rw [if_neg (by simp), hmo]
    dsimp only
    rw [dif_pos ⟨by omega, hfin.2.1⟩]
    simp
theorem prntL_cons (c : Cmd) (l : List Cmd) : prntL (c :: l) = cmdB c ++ prntL l := by simp [prntL]
theorem prnt_rest (l : List Cmd) (hl : ∀ c ∈ l, c.L < 256 ∧ rightP c.L c.A = true) (t : List UInt8) (ht : Rest t) : Rest (prntL l ++ t) := by
  cases l with
  | nil => exact ht
  | cons c l =>
    obtain ⟨h1, h2⟩ := hl c (by simp)
    obtain ⟨L, A, hO, _⟩ := right_parts h2
    refine .inr (.inr ⟨UInt8.ofNat c.L, _, ?_, .inl (by rw [prntL_cons, cmdB_eq]; rfl)⟩)
    rw [UInt8.toNat_ofNat', Nat.mod_eq_of_lt (by omega), hO]
    rfl
theorem all_run {s : ByteArray} {t : List UInt8} (ht : Rest t) : ∀ (l : List Cmd) (i : Nat) (first : Bool) (acc : List Cmd), (∀ c ∈ l, c.L < 256 ∧ rightP c.L c.A = true) → (first = true → ∀ c l', l = c :: l' → capF c.L = 77) →
    from_ s i = prntL l ++ t → wk s none (blEnd s i) first acc = wk s none (blEnd s (i + (prntL l).length)) (first && l.isEmpty) (acc ++ l)
  | [], i, first, acc, _, _, h => by simp [prntL]
  | c :: l, i, first, acc, hl, hf, h => by
    obtain ⟨h1, h2⟩ := hl c (by simp)
    have hl' : ∀ c' ∈ l, c'.L < 256 ∧ rightP c'.L c'.A = true := fun c' hc => hl c' (by simp [hc])
    rw [prntL_cons, List.append_assoc] at h
    have hR := prnt_rest l hl' t ht
    obtain ⟨L, A, hO, _⟩ := right_parts h2
    have hb : blEnd s i = i := bl_here h (fun b r' e => by
      rw [cmdB_eq] at e
      injection e with e _
      subst e
      rw [UInt8.toNat_ofNat', Nat.mod_eq_of_lt (by omega)]
      exact (let_some h1 hO).2.1)
    rw [hb, cmd_run acc h1 h2 h hR (fun hh => hf hh c l rfl), all_run ht l _ false _ hl' (fun h => by cases h) (drop_more h)]
    rw [prntL_cons, List.length_append, Nat.add_assoc]
    cases first <;> simp
theorem mayP_all {l : List Cmd} (h : mayP l = true) : (∀ c ∈ l, rightP c.L c.A = true) ∧ ∀ c l', l = c :: l' → capF c.L = 77 := by
  unfold mayP at h
  rw [decide_eq_true_iff] at h
  refine ⟨fun c hc => ?_, fun c l' e => ?_⟩
  · obtain ⟨j, hj, rfl⟩ := List.getElem_of_mem hc
    exact (h j hj).1
  · subst e
    exact (h 0 (by simp)).2 rfl
theorem parse_join (a b : List Cmd) (ha : mayP a = true) (hb : mayP b = true) (hLa : ∀ c ∈ a, c.L < 256) (hLb : ∀ c ∈ b, c.L < 256) (s : ByteArray) (hs : s.data.toList = prntL a ++ 32 :: prntL b) (hz : s.size ≤ 65536) : parseP s = (a ++ b, -1, 0) := by
  obtain ⟨a1, a2⟩ := mayP_all ha
  obtain ⟨b1, b2⟩ := mayP_all hb
  unfold parseP
  rw [if_neg (by omega)]
  unfold walkF
  have h0 : from_ s 0 = prntL a ++ 32 :: prntL b := hs
  have hR : Rest (32 :: prntL b) := by
    cases hb' : b with
    | nil => exact .inr (.inl rfl)
    | cons c l =>
      obtain ⟨L, A, hO, _⟩ := right_parts (b1 c (by rw [hb']; simp))
      have hc := hLb c (by rw [hb']; simp)
      refine .inr (.inr ⟨UInt8.ofNat c.L, argsB (sgOf c.L) 0 c.A ++ prntL l, ?_, .inr (by rw [prntL_cons, cmdB_eq]; rfl)⟩)
      rw [UInt8.toNat_ofNat', Nat.mod_eq_of_lt (by omega), hO]
      rfl
  rw [all_run hR a 0 true [] (fun c hc => ⟨hLa c hc, a1 c hc⟩) (fun _ => a2) h0]
  have h1 := drop_more h0
  have h2 := (bAt_drop h1).2.2
  rw [bl_one h1, List.nil_append]
  rw [all_run (t := []) (.inl rfl) b _ _ a (fun c hc => ⟨hLb c hc, b1 c hc⟩) (fun _ => b2) (by rw [List.append_nil]; exact h2)]
  have h3 := drop_more (X := prntL b) (r := []) (by rw [List.append_nil]; exact h2)
  have h4 := size_drop h3
  rw [bl_here h3 (fun b r' e => by cases e), wk]
  rw [if_neg (by omega)]
theorem parse_print (l : List Cmd) (hm : mayP l = true) (hL : ∀ c ∈ l, c.L < 256) (s : ByteArray) (hs : s.data.toList = prntL l) (hz : s.size ≤ 65536) : parseP s = (l, -1, 0) := by
  obtain ⟨a1, a2⟩ := mayP_all hm
  unfold parseP
  rw [if_neg (by omega)]
  unfold walkF
  have h0 : from_ s 0 = prntL l ++ [] := by rw [List.append_nil]; exact hs
  rw [all_run (.inl rfl) l 0 true [] (fun c hc => ⟨hL c hc, a1 c hc⟩) (fun _ => a2) h0]
  have h3 := drop_more h0
  have h4 := size_drop h3
  rw [bl_here h3 (fun b r' e => by cases e), wk]
  rw [if_neg (by omega), List.nil_append]
end Go.Proofs.YtchgjjegcoiepaaDoor
