import Derived.Test.YtchgjjegcoiepaaDoorCmd
namespace Go.Proofs.YtchgjjegcoiepaaDoor
open Go.RowKit

theorem scan_step (s : ByteArray) (sg : Bool) (i : Nat) (h : endL.getD (scanGo s sg i 0).2 0 = 1) (hi : i ≤ s.size) : i < (scanGo s sg i 0).1 := by
  rw [scanGo] at h ⊢
  by_cases hc : i < s.size ∧ stops sg 0 (kd (bAt s i)) = false
  · rw [if_pos hc]
    have := (scanGo_bd s sg (s.size - (i + 1)) (i + 1) (nxt 0 (kd (bAt s i))) rfl (by omega)).1
    omega
  · rw [if_neg hc] at h
    simp [endL] at h
theorem argF_step (s : ByteArray) (i k : Nat) (hi : i ≤ s.size) (h : (argF s i k).2.1 = 0) : i < (argF s i k).2.2 := by
  unfold argF at h ⊢
  split
  · rename_i h1
    rw [if_pos h1] at h
    split
    · dsimp only; omega
    · rename_i h2
      rw [if_neg h2] at h
      dsimp only at h; omega
  · rename_i h1
    rw [if_neg h1] at h
    unfold numF at h ⊢
    split
    · rename_i h2
      rw [if_pos h2] at h
      dsimp only at h ⊢
      rw [if_pos h]
      exact scan_step s _ i h2 hi
    · rename_i h2
      rw [if_neg h2] at h
      dsimp only at h; omega
theorem grpGo_bd (s A : ByteArray) : ∀ (d k i : Nat) (acc : List Int), A.size - k = d → i ≤ s.size →
    i ≤ (grpGo s A k i acc).2.2 ∧ (grpGo s A k i acc).2.2 ≤ s.size ∧ (k < A.size → (grpGo s A k i acc).2.1 = 0 → i < (grpGo s A k i acc).2.2) := by
  intro d
  induction d with
  | zero => intro k i acc hd hi; rw [grpGo, if_neg (by omega)]; exact ⟨Nat.le_refl _, hi, fun h => by omega⟩
  | succ d ih =>
    intro k i acc hd hi
    rw [grpGo, if_pos (by omega)]
    dsimp only
    have hg := gapEnd_bd s i hi
    obtain ⟨i', hi'⟩ : ∃ i', (if 0 < k then gapEnd s i else i) = i' := ⟨_, rfl⟩
    have hb : i ≤ i' ∧ i' ≤ s.size := by rw [← hi']; split <;> omega
    rw [hi']
    split
    · exact ⟨hb.1, hb.2, fun _ h => by dsimp only at h; omega⟩
    · have ha := argF_bd s i' (bAt A k) hb.2
      split
      · rename_i h; exact ⟨by dsimp only; omega, ha.2, fun _ h' => absurd h' h⟩
      · rename_i h
        have hs := argF_step s i' (bAt A k) hb.2 (by omega)
        obtain ⟨x, y, _⟩ := ih (k + 1) (argF s i' (bAt A k)).2.2 (acc ++ [(argF s i' (bAt A k)).1]) (by omega) ha.2
        exact ⟨by omega, y, fun _ _ => by omega⟩
theorem moreF_bd (s A : ByteArray) (i : Nat) (hi : i ≤ s.size) : i ≤ (moreF s A i).2 ∧ (moreF s A i).2 ≤ s.size := by
  have := blEnd_bd s i hi
  unfold moreF
  dsimp only
  split
  · have := blEnd_bd s (blEnd s i + 1) (by omega); dsimp only; omega
  · exact this
theorem sgB_size (j : Nat) : (sgB j).size ≤ 7 := by
  have e : (sgB j).size = (sgA.getD j []).length := by simp [sgB, ByteArray.size]
  rw [e]
  by_cases h : j < 10
  · have : ∀ j : Fin 10, (sgA.getD j.1 []).length ≤ 7 := by decide
    exact this ⟨j, h⟩
  · rw [List.getD, List.getElem?_eq_none (by simp [sgA]; omega)]; simp
theorem ofF_size {c L : Nat} {A : ByteArray} (h : ofF c = some (L, A)) : A.size ≤ 7 ∧ L < 256 := by
  unfold ofF at h
  obtain ⟨j, _, e⟩ := Option.map_eq_some_iff.1 h
  injection e with e1 e2
  subst e2
  refine ⟨sgB_size j, ?_⟩
  rw [← e1]
  by_cases h : j < 10
  · have : ∀ j : Fin 10, sgL.getD j.1 0 < 256 := by decide
    exact this ⟨j, h⟩
  · rw [List.getD, List.getElem?_eq_none (by simp [sgL]; omega)]; simp

/-- path data, group by group: the groups, the place, the error. -/
def wk (s : ByteArray) (st : Option (ByteArray × Nat)) (i : Nat) (first : Bool) (acc : List Cmd) : List Cmd × Int × Nat :=
  match st with
  | none =>
    if i < s.size then
      match ofF (bAt s i) with
      | none => (acc, i, 3)
      | some (L, A) =>
        if first = true ∧ L ≠ 77 then (acc, i, 3)
        else if h : i < blEnd s (i + 1) ∧ blEnd s (i + 1) ≤ s.size then
          if A.size = 0 then wk s none (blEnd s (i + 1)) false (acc ++ [⟨bAt s i, []⟩]) else wk s (some (A, bAt s i)) (blEnd s (i + 1)) false acc
        else ([], 0, 0)
    else (acc, -1, 0)
  | some (A, c) =>
    if (grpGo s A 0 i []).2.1 ≠ 0 then (acc, (grpGo s A 0 i []).2.2, (grpGo s A 0 i []).2.1)
    else if h : i < (moreF s A (grpGo s A 0 i []).2.2).2 ∧ (moreF s A (grpGo s A 0 i []).2.2).2 ≤ s.size then
      if (moreF s A (grpGo s A 0 i []).2.2).1 then wk s (some (A, if c = 77 ∨ c = 109 then c - 1 else c)) (moreF s A (grpGo s A 0 i []).2.2).2 false (acc ++ [⟨c, (grpGo s A 0 i []).1⟩])
      else wk s none (moreF s A (grpGo s A 0 i []).2.2).2 false (acc ++ [⟨c, (grpGo s A 0 i []).1⟩])
    else ([], 0, 0)
termination_by s.size - i
def walkF (s : ByteArray) : List Cmd × Int × Nat := wk s none (blEnd s 0) true []

theorem Cl.rd {w w' : World} {ob base b : Nat} {l : List Cmd} {s : ByteArray} {i : Nat} (h : Cl w ob base l) (hr : Rd w b s i) (f : Fr (One b) w w') : Cl w' ob base l :=
  h.fr f (fun k t h1 h2 e => by
    have := h1.ne (show Ty w k 141 from (show k = b from e) ▸ ⟨_, _, hr.1⟩)
    rcases h2 with rfl | rfl | rfl <;> exact absurd this (by decide))
theorem blk_cl {w w' : World} {ob base k : Nat} {l : List Cmd} {c : Array Value} {t : TypeId} {f : Nat × Nat} (h : w.heap[k]? = some (.cells c t f)) (h22 : t ≠ 22) (h60 : t ≠ 60) (hc : Cl w ob base l)
    (fr : Fr (fun k => k = ob ∨ (base ≤ k ∧ Ty w k 60)) w w') : w'.heap[k]? = some (.cells c t f) := by
  refine (fr.block k (lt_of_block h) ?_).trans h
  rintro (rfl | ⟨_, h'⟩)
  · obtain ⟨v, pv, h1, _⟩ := hc.ex
    exact h22 (Ty.ne ⟨_, _, h⟩ ⟨_, _, h1⟩)
  · exact h60 (Ty.ne ⟨_, _, h⟩ h')
def Q2 (ob base : Nat) (k : Nat) : Prop := k = ob ∨ base ≤ k
def WkPost (ob base : Nat) (w : World) (r : List Cmd × Int × Nat) (e : Ending) (w' : World) : Prop :=
  e = .returned (.tuple #[.int .i64 r.2.1, .int .i64 r.2.2]) ∧ Cl w' ob base r.1 ∧ Fr (Q2 ob base) w w'
structure Tabs (w : World) : Prop where
  bl : TabBl w
  nx : TabNx w
  sg : TabSg w
  sz : 14 ≤ w.heap.size
theorem Tabs.fr {P : Nat → Prop} {w w' : World} (h : Tabs w) (f : Fr P w w') (hP : ∀ k, k < 14 → ¬ P k) : Tabs w' :=
  have hz := h.sz
  ⟨h.bl.fr f (by omega) (hP 3 (by omega)), h.nx.fr f (by omega) (hP 6 (by omega)) (hP 7 (by omega)), h.sg.fr f (by omega) (hP 0 (by omega)), by have := f.size; omega⟩

set_option maxRecDepth 100000 in
set_option maxHeartbeats 4000000 in
theorem walk_any (s : ByteArray) (ob base : Nat) (w : World) (hs : s.size ≤ 65536) (hT : Tabs w) (hob : 14 ≤ ob) (hba : 14 ≤ base) (hbw : base ≤ w.heap.size) (hC : Cl w ob base []) :
    Calls Tryd.prog 33 #[.string s, .func (.func 34) #[] #[.pointer (some ⟨ob, 0, none⟩)]] w (WkPost ob base w (walkF s)) := by
  have hs64 : s.size ≤ 140737488351232 := by omega
  have HS0 := Lib.hid hs; clear hs
  obtain ⟨R, hR⟩ : ∃ R, walkF s = R := ⟨_, rfl⟩
  rw [hR]
  have HR : Hid (wk s none (blEnd s 0) true [] = R) := hR
  clear hR
  obtain ⟨b, hb⟩ : ∃ b, w.heap.size = b := ⟨_, rfl⟩
  have hb14 : 14 ≤ b := by have := hT.sz; omega
  go_enter Tryd.func33, Tryd.ntmps33
  go_wp2
  go_step3
  go_wp2_with (go_at_call 61; refine (New_any s w).mono ?_; rintro e w1 ⟨rfl, rfl⟩)
  have hr1 : Rd (w.alloc (.cells #[.string s, .int .i64 0] 141)) b s 0 := ⟨by rw [← hb]; exact alloc_block w _, by omega, hs64⟩
  have hf1 : ∀ P, Fr P w (w.alloc (.cells #[.string s, .int .i64 0] 141)) := fun P => (Fr.refl w).alloc _
  have HB := Lib.hid hb; clear hb
  generalize World.alloc w _ = w1 at *
  have hT1 := hT.fr (hf1 No) (fun _ _ => id)
  refine (Blanks_any b s 0 w1 hr1 hb14 hT1.bl).mono ?_
  rintro e w2 ⟨rfl, hr2, hf2⟩
  have hbd0 := blEnd_bd s 0 (by omega)
  have hC2 : Cl w2 ob base [] := (hC.fr (hf1 No) (fun _ _ _ _ => id)).fr hf2 (fun k t h1 h2 e => by
    have := h1.ne (show Ty w1 k 141 from (show k = b from e) ▸ ⟨_, _, hr1.1⟩)
    rcases h2 with rfl | rfl | rfl <;> exact absurd this (by decide))
  have hF2 : Fr (Q2 ob base) w w2 := (hf1 _).then hf2 (fun i h1 h2 => .inr (by have := HB.out; have : i = b := h2; omega))
  have hT2 := hT1.fr hf2 (fun k hk e => by have : k = b := e; omega)
  clear hf1 hr1 hT1 hf2 hC hT
  go_wp2
  go_step3
  go_wp2
  go_loopg [7] (s.size - blEnd s 0) (fun gk u7 wx => ∃ (first : Bool) (i : Nat) (acc : List Cmd), u7 = .bool first ∧ wk s none i first acc = R ∧ i ≤ s.size ∧ acc.length ≤ i ∧ Rd wx b s i ∧ Cl wx ob base acc ∧ Fr (Q2 ob base) w wx ∧ Tabs wx ∧ gk = s.size - i)
  case atStart => exact ⟨true, blEnd s 0, [], rfl, HR.out, hbd0.2, by simp, hr2, hC2, hF2, hT2, rfl⟩
  case round =>
    obtain ⟨first, i, acc, rfl, hgo, hi, hal, hr, hC, hF, hT, rfl⟩ := hrel
    have HG := Lib.hid hgo; clear hgo
    have HL := Lib.hid (Left_any b s i wr hr)
    by_cases hlt : i < s.size
    · have hlt0 : 0 < s.size - i := by omega
      obtain ⟨c, hc⟩ : ∃ c, bAt s i = c := ⟨_, rfl⟩
      have h256 : c < 256 := hc ▸ bAt_lt s i
      have HPk := Lib.hid (fun wx (hx : Rd wx b s i) => Peek_some b s i wx hx hlt)
      have HO := Lib.hid (fun wx (hx : Tabs wx) => of_any c wx hx.sz h256 hx.sg)
      have HS : wk s none i first acc = R := HG.out
      rw [wk, if_pos hlt, hc] at HS
      rw [hc] at HPk
      clear hc
      unfold OfPost at HO
      cases hof : ofF c with
      | none =>
        rw [hof] at HS HO
        dsimp only at HS HO
        replace HS := Lib.hid HS
        have HAt := Lib.hid (fun wx (hx : Rd wx b s i) => At_any b s i wx hx)
        go_wp2_with (first | (go_at_call 63; refine HL.out.mono ?_; rintro e w' ⟨rfl, n1, rfl⟩) | (go_at_call 64; refine (HPk.out _ (hr.drewN n1)).mono ?_; rintro e w' ⟨rfl, n2, rfl⟩) | (go_at_call 28; refine (HO.out _ (by exact hT.fr ((Fr.refl wr).drewN (n1 + n2)) (fun _ _ => id))).mono ?_; rintro e w3 ⟨rfl, f3⟩) | (go_at_call 65; refine (HAt.out _ (by exact (hr.drewN (n1 + n2)).fr (f3.alloc _) id)).mono ?_; rintro e w4 ⟨rfl, rfl⟩))
        rw [Exit.noGoto_ret]
        go_ret2
        rw [← HS.out]
        have FW : Fr No wr (w3.alloc (.cells #[.int .u8 0, .string ⟨#[]⟩] 71)) := ((((Fr.refl wr).drewN (n1 + n2)).trans f3).alloc _)
        exact ⟨rfl, hC.fr FW (fun _ _ _ _ => id), hF.then FW (fun _ _ h => h.elim)⟩
      | some r =>
        obtain ⟨L, A⟩ := r
        rw [hof] at HS HO
        dsimp only at HS HO
        obtain ⟨hA7, hL256⟩ := ofF_size hof
        clear hof
        by_cases hfl : first = true ∧ L ≠ 77
        · rw [if_pos hfl] at HS
          replace HS := Lib.hid HS
          have HAt := Lib.hid (fun wx (hx : Rd wx b s i) => At_any b s i wx hx)
          obtain ⟨rfl, h77⟩ := hfl
          have h77b : ((L : Int) != 77) = true := by simp; omega
          clear h77
          go_wp2_with (first | (go_at_call 63; refine HL.out.mono ?_; rintro e w' ⟨rfl, n1, rfl⟩) | (go_at_call 64; refine (HPk.out _ (hr.drewN n1)).mono ?_; rintro e w' ⟨rfl, n2, rfl⟩) | (go_at_call 28; refine (HO.out _ (by exact hT.fr ((Fr.refl wr).drewN (n1 + n2)) (fun _ _ => id))).mono ?_; rintro e w3 ⟨rfl, f3⟩) | (go_at_call 65; refine (HAt.out _ (by exact (hr.drewN (n1 + n2)).fr (f3.alloc _) id)).mono ?_; rintro e w4 ⟨rfl, rfl⟩))
          rw [Exit.noGoto_ret]
          go_ret2
          rw [← HS.out]
          have FW : Fr No wr (w3.alloc (.cells #[.int .u8 L, .string A] 71)) := ((((Fr.refl wr).drewN (n1 + n2)).trans f3).alloc _)
          exact ⟨rfl, hC.fr FW (fun _ _ _ _ => id), hF.then FW (fun _ _ h => h.elim)⟩
        · rw [if_neg hfl] at HS
          have hbd := blEnd_bd s (i + 1) (by omega)
          rw [dif_pos ⟨by omega, hbd.2⟩] at HS
          have hor : (first = false) ∨ (first = true ∧ ((L : Int) != 77) = false) := by
            cases first
            · exact .inl rfl
            · exact .inr ⟨rfl, by simp at hfl ⊢; omega⟩
          clear hfl
          obtain ⟨i1, hi1⟩ : ∃ i1, blEnd s (i + 1) = i1 := ⟨_, rfl⟩
          have HSk := Lib.hid (fun wx (hx : Rd wx b s i) => Skip_some b s i wx hx hlt)
          have HBk := Lib.hid (fun wx (hx : Rd wx b s (i + 1)) (ht : Tabs wx) => Blanks_any b s (i + 1) wx hx hb14 ht.bl)
          rw [hi1] at HS hbd HBk
          clear hi1
          replace HS := Lib.hid HS
          rcases hor with rfl | ⟨rfl, h77⟩
          all_goals
            go_upto_region 12 with (first | (go_at_call 63; refine HL.out.mono ?_; rintro e w' ⟨rfl, n1, rfl⟩) | (go_at_call 64; refine (HPk.out _ (hr.drewN n1)).mono ?_; rintro e w' ⟨rfl, n2, rfl⟩) | (go_at_call 28; refine (HO.out _ (by exact hT.fr ((Fr.refl wr).drewN (n1 + n2)) (fun _ _ => id))).mono ?_; rintro e w3 ⟨rfl, f3⟩) | (go_at_call 65; refine (HAt.out _ (by exact (hr.drewN (n1 + n2)).fr (f3.alloc _) id)).mono ?_; rintro e w4 ⟨rfl, rfl⟩) | (go_at_call 66; refine (HSk.out _ (by exact (hr.drewN (n1 + n2)).fr (f3.alloc _) id)).mono ?_; rintro e w5 ⟨rfl, hr5, f5⟩) | (go_at_call 62; refine (HBk.out _ hr5 (by exact (hT.fr (((Fr.refl wr).drewN (n1 + n2)).trans (f3.alloc _)) (fun _ _ => id)).fr f5 (fun k hk e => by have : k = b := e; omega))).mono ?_; rintro e w6 ⟨rfl, hr6, f6⟩))
            have FW : Fr No wr (w3.alloc (.cells #[.int .u8 L, .string A] 71)) := ((((Fr.refl wr).drewN (n1 + n2)).trans f3).alloc _)
            have sb0 : (w3.alloc (.cells #[.int .u8 L, .string A] 71)).heap[w3.heap.size]? = some (.cells #[.int .u8 L, .string A] 71) := alloc_block w3 _
            have hr4 := hr.fr FW id
            have hC4 := hC.fr FW (fun _ _ _ _ => id)
            have hF4 : Fr (Q2 ob base) w (w3.alloc (.cells #[.int .u8 L, .string A] 71)) := hF.then FW (fun _ _ h => h.elim)
            have hT4 := hT.fr FW (fun _ _ => id)
            have hsb : b < w3.heap.size := by have := hr.lt; have := f3.size; simp at this; omega
            obtain ⟨sb, hsbe⟩ : ∃ sb, w3.heap.size = sb := ⟨_, rfl⟩
            rw [hsbe] at sb0 hsb ⊢
            clear hsbe
            generalize World.alloc w3 _ = w4 at *
            have sb6 := (f6.block sb (by have := f5.size; have := lt_of_block sb0; omega) (by unfold One; omega)).trans ((f5.block sb (lt_of_block sb0) (by unfold One; omega)).trans sb0)
            have hC6 := (hC4.rd hr4 f5).rd hr5 f6
            have hF6 : Fr (Q2 ob base) w w6 := (hF4.then f5 (fun i h1 h2 => .inr (by have := HB.out; have : i = b := h2; omega))).then f6 (fun i h1 h2 => .inr (by have := HB.out; have : i = b := h2; omega))
            have hT6 := (hT4.fr f5 (fun k hk e => by have : k = b := e; omega)).fr f6 (fun k hk e => by have : k = b := e; omega)
            clear hr4 hC4 hF4 hT4 sb0 f5 f6 f3 FW hr hC hF hT hr5
            have q1 := cell_of_block sb6 1
            simp only [List.getElem?_toArray, List.getElem?_cons_zero, List.getElem?_cons_succ] at q1
            by_cases hA0 : A.size = 0
            · have hAe : A = ⟨#[]⟩ := by
                obtain ⟨d⟩ := A
                have : d.size = 0 := hA0
                rw [Array.eq_empty_of_size_eq_zero this]
              subst hAe
              replace HS : Hid (wk s none i1 false (acc ++ [⟨c, []⟩]) = R) := by have h := HS.out; rwa [if_pos hA0] at h
              have hba6 : base ≤ w6.heap.size := by have := hF6.size; omega
              have HCl := Lib.hid (parse1_any ob base acc c (.slice none 0 0) [] w6 hC6 hba6 (SlI.nil _) (by have := HS0.out; omega))
              clear hA0
              go_wp2_with (go_at_call 34; refine HCl.out.mono ?_; rintro e w7 ⟨rfl, hC7, f7⟩)
              go_roundg (s.size - i1)
              case measure => omega
              case rel => exact ⟨false, i1, acc ++ [⟨c, []⟩], rfl, HS.out, hbd.2, by rw [List.length_append]; simp; omega, ⟨blk_cl hr6.1 (by decide) (by decide) hC6 f7, hr6.2⟩, hC7, hF6.then f7 (fun k _ h => h.elim .inl (fun h => .inr h.1)), hT6.fr f7 (fun k hk h => by rcases h with h | h <;> omega), rfl⟩
            · replace HS : Hid (wk s (some (A, c)) i1 false acc = R) := by have h := HS.out; rwa [if_neg hA0] at h
              have hAe : A.toList.isEmpty = false := by
                rw [ByteArray.toList_eq]
                obtain ⟨⟨d⟩⟩ := A
                cases d with
                | nil => exact absurd rfl hA0
                | cons x l => rfl
              have HA0 := Lib.hid hA0
              clear hA0
              have HA7 := Lib.hid hA7
              go_wp2_with fail
              obtain ⟨wq, rfl⟩ : ∃ wq : World, wq = w6 := ⟨_, rfl⟩
              go_loopg [8] (s.size - i1) (fun gk u8 wx => ∃ (c j : Nat) (acc : List Cmd), u8 = .int .u8 c ∧ c < 256 ∧ wk s (some (A, c)) j false acc = R ∧ i < j ∧ j ≤ s.size ∧ acc.length ≤ j ∧ Rd wx b s j ∧ Cl wx ob base acc ∧ Fr (Q2 ob base) w wx ∧ Tabs wx ∧ wx.heap[sb]? = some (.cells #[.int .u8 L, .string A] 71 (0, 0)) ∧ gk = s.size - j)
              case atStart => exact ⟨c, i1, acc, rfl, h256, HS.out, by omega, hbd.2, by omega, hr6, hC6, hF6, hT6, sb6, rfl⟩
              case round =>
                clear hr6 hC6 hF6 hT6 sb6 q1 HG HL HPk HO HSk HBk HS hal
                obtain ⟨c, j, acc, rfl, h256, hgo, hij, hj, hal, hr, hC, hF, hT, hsB, rfl⟩ := hrel
                have q1 := cell_of_block hsB 1
                simp only [List.getElem?_toArray, List.getElem?_cons_zero, List.getElem?_cons_succ] at q1
                have HGr := Lib.hid (group_any b s A j wr hr hb14 hT.bl hT.nx (by have := HA7.out; omega))
                obtain ⟨g1, g2, g3⟩ := grpGo_bd s A _ 0 j [] rfl hj
                rw [wk] at hgo
                obtain ⟨⟨args, ge, gp⟩, hg⟩ : ∃ r, grpGo s A 0 j [] = r := ⟨_, rfl⟩
                rw [hg] at hgo HGr g1 g2 g3
                dsimp only at hgo g1 g2 g3
                unfold GrpPost at HGr
                dsimp only at HGr
                clear hg
                have hb6 : base ≤ wr.heap.size := by have := hF.size; omega
                by_cases hge : ge = 0
                · rw [if_neg (by omega)] at hgo
                  have hgb : ((ge : Int) != 0) = false := by simp [hge]
                  have g3' := g3 (by have := HA0.out; omega) hge
                  have hmb := moreF_bd s A gp g2
                  have HMo := Lib.hid (fun wx (hx : Rd wx b s gp) (ht : Tabs wx) => more_any b s A gp wx hx hb14 ht.bl (by have := HA7.out; omega))
                  obtain ⟨⟨mb, mp⟩, hm⟩ : ∃ r, moreF s A gp = r := ⟨_, rfl⟩
                  rw [hm] at hgo hmb HMo
                  dsimp only at hgo hmb HMo
                  rw [dif_pos ⟨by omega, hmb.2⟩] at hgo
                  clear hge g3 hm
                  have HGo := Lib.hid hgo; clear hgo
                  have HAl := Lib.hid hal; clear hal
                  have HHs := HS0
                  have hlen : Hid (acc.length ≤ 100000) := by have := HS0.out; have := HAl.out; unfold Hid; omega
                  have HGB := Lib.hid g2
                  cases mb
                  · have HGo' : Hid (wk s none mp false (acc ++ [⟨c, args⟩]) = R) := by have h := HGo.out; rwa [if_neg (by simp)] at h
                    go_wp2_with (first | (go_at_call 67; refine HGr.out.mono ?_; rintro e wA ⟨sv, rfl, hoA, hrA, hfA⟩; obtain ⟨Aa, ca, rfl, _⟩ := hoA.form; have hCA := hC.rd hr hfA; have hsA := SlI.of_own hoA; have hTA := hT.fr hfA (fun k hk e => by have : k = b := e; omega); have hzA := hfA.size) | (go_at_call 34; refine (parse1_any ob base acc c _ args wA hCA (by omega) hsA hlen.out).mono ?_; rintro e wB ⟨rfl, hCB, hfB⟩; have hrB : Rd wB b s gp := ⟨blk_cl hrA.1 (by decide) (by decide) hCA hfB, hrA.2⟩; have hTB := hTA.fr hfB (fun k hk h => by rcases h with h | h <;> omega); have sbA := (hfA.block sb (lt_of_block hsB) (by unfold One; omega)).trans hsB; have sbB := blk_cl sbA (by decide) (by decide) hCA hfB; have qB := cell_of_block sbB 1; simp only [List.getElem?_toArray, List.getElem?_cons_zero, List.getElem?_cons_succ] at qB) | (go_at_call 68; refine (HMo.out _ hrB hTB).mono ?_; rintro e wC ⟨rfl, hrC, hfC⟩))
                    go_roundg (s.size - mp)
                    case measure => omega
                    case rel => exact ⟨false, mp, acc ++ [⟨c, args⟩], rfl, HGo'.out, hmb.2, by have := HAl.out; rw [List.length_append]; simp; omega, hrC, hCB.rd hrB hfC, ((hF.then hfA (fun k h1 h2 => .inr (by have := HB.out; have : k = b := h2; omega))).then hfB (fun k _ h => h.elim .inl (fun h => .inr h.1))).then hfC (fun k h1 h2 => .inr (by have := HB.out; have : k = b := h2; omega)), hTB.fr hfC (fun k hk e => by have : k = b := e; omega), rfl⟩
                  · have HGo' : Hid (wk s (some (A, if c = 77 ∨ c = 109 then c - 1 else c)) mp false (acc ++ [⟨c, args⟩]) = R) := by have h := HGo.out; rwa [if_pos rfl] at h
                    have hor : (c = 77 ∨ c = 109) ∨ (((c : Int) == 77) = false ∧ ((c : Int) == 109) = false ∧ ¬ (c = 77 ∨ c = 109)) := by
                      by_cases h : c = 77 ∨ c = 109
                      · exact .inl h
                      · exact .inr ⟨by simp; omega, by simp; omega, h⟩
                    rcases hor with hM | ⟨hc1, hc2, hM⟩
                    · rw [if_pos hM] at HGo'
                      have hMM : (((c : Int) == 77) = true ∧ 77 ≤ c ∧ c ≤ 77) ∨ (((c : Int) == 77) = false ∧ ((c : Int) == 109) = true ∧ 109 ≤ c ∧ c ≤ 109) := by
                        rcases hM with h | h
                        · exact .inl ⟨by simp [h], by omega, by omega⟩
                        · exact .inr ⟨by simp; omega, by simp [h], by omega, by omega⟩
                      clear hM
                      rcases hMM with ⟨hc1, hc2, hc3⟩ | ⟨hc1, hc2, hc3, hc4⟩
                      all_goals
                        go_wp2_with (first | (go_at_call 67; refine HGr.out.mono ?_; rintro e wA ⟨sv, rfl, hoA, hrA, hfA⟩; obtain ⟨Aa, ca, rfl, _⟩ := hoA.form; have hCA := hC.rd hr hfA; have hsA := SlI.of_own hoA; have hTA := hT.fr hfA (fun k hk e => by have : k = b := e; omega); have hzA := hfA.size) | (go_at_call 34; refine (parse1_any ob base acc c _ args wA hCA (by omega) hsA hlen.out).mono ?_; rintro e wB ⟨rfl, hCB, hfB⟩; have hrB : Rd wB b s gp := ⟨blk_cl hrA.1 (by decide) (by decide) hCA hfB, hrA.2⟩; have hTB := hTA.fr hfB (fun k hk h => by rcases h with h | h <;> omega); have sbA := (hfA.block sb (lt_of_block hsB) (by unfold One; omega)).trans hsB; have sbB := blk_cl sbA (by decide) (by decide) hCA hfB; have qB := cell_of_block sbB 1; simp only [List.getElem?_toArray, List.getElem?_cons_zero, List.getElem?_cons_succ] at qB) | (go_at_call 68; refine (HMo.out _ hrB hTB).mono ?_; rintro e wC ⟨rfl, hrC, hfC⟩))
                        go_roundg (s.size - mp)
                        case measure => omega
                        case rel => exact ⟨c - 1, mp, _, by congr 1; omega, by omega, HGo'.out, by omega, hmb.2, by have := HAl.out; rw [List.length_append]; simp; omega, hrC, hCB.rd hrB hfC, ((hF.then hfA (fun k h1 h2 => .inr (by have := HB.out; have : k = b := h2; omega))).then hfB (fun k _ h => h.elim .inl (fun h => .inr h.1))).then hfC (fun k h1 h2 => .inr (by have := HB.out; have : k = b := h2; omega)), hTB.fr hfC (fun k hk e => by have : k = b := e; omega), (hfC.block sb (lt_of_block sbB) (by unfold One; omega)).trans sbB, rfl⟩
                    · rw [if_neg hM] at HGo'
                      clear hM
                      go_wp2_with (first | (go_at_call 67; refine HGr.out.mono ?_; rintro e wA ⟨sv, rfl, hoA, hrA, hfA⟩; obtain ⟨Aa, ca, rfl, _⟩ := hoA.form; have hCA := hC.rd hr hfA; have hsA := SlI.of_own hoA; have hTA := hT.fr hfA (fun k hk e => by have : k = b := e; omega); have hzA := hfA.size) | (go_at_call 34; refine (parse1_any ob base acc c _ args wA hCA (by omega) hsA hlen.out).mono ?_; rintro e wB ⟨rfl, hCB, hfB⟩; have hrB : Rd wB b s gp := ⟨blk_cl hrA.1 (by decide) (by decide) hCA hfB, hrA.2⟩; have hTB := hTA.fr hfB (fun k hk h => by rcases h with h | h <;> omega); have sbA := (hfA.block sb (lt_of_block hsB) (by unfold One; omega)).trans hsB; have sbB := blk_cl sbA (by decide) (by decide) hCA hfB; have qB := cell_of_block sbB 1; simp only [List.getElem?_toArray, List.getElem?_cons_zero, List.getElem?_cons_succ] at qB) | (go_at_call 68; refine (HMo.out _ hrB hTB).mono ?_; rintro e wC ⟨rfl, hrC, hfC⟩))
                      go_roundg (s.size - mp)
                      case measure => omega
                      case rel => exact ⟨c, mp, _, rfl, h256, HGo'.out, by omega, hmb.2, by have := HAl.out; rw [List.length_append]; simp; omega, hrC, hCB.rd hrB hfC, ((hF.then hfA (fun k h1 h2 => .inr (by have := HB.out; have : k = b := h2; omega))).then hfB (fun k _ h => h.elim .inl (fun h => .inr h.1))).then hfC (fun k h1 h2 => .inr (by have := HB.out; have : k = b := h2; omega)), hTB.fr hfC (fun k hk e => by have : k = b := e; omega), (hfC.block sb (lt_of_block sbB) (by unfold One; omega)).trans sbB, rfl⟩
                · rw [if_pos hge] at hgo
                  have HGo := Lib.hid hgo
                  have hgb : ((ge : Int) != 0) = true := by simp; omega
                  have HAt := Lib.hid (fun wx (hx : Rd wx b s gp) => At_any b s gp wx hx)
                  clear hge hgo g3
                  go_wp2_with (first | (go_at_call 67; refine HGr.out.mono ?_; rintro e wA ⟨sv, rfl, hoA, hrA, hfA⟩; obtain ⟨Aa, ca, rfl, _⟩ := hoA.form; have hCA := hC.rd hr hfA; have hsA := SlI.of_own hoA; have hTA := hT.fr hfA (fun k hk e => by have : k = b := e; omega); have hzA := hfA.size) | (go_at_call 65; refine (HAt.out _ hrA).mono ?_; rintro e w4 ⟨rfl, rfl⟩))
                  rw [Exit.noGoto_ret]
                  go_ret2
                  rw [← HGo.out]
                  exact ⟨rfl, hCA, hF.then hfA (fun k h1 h2 => .inr (by have := HB.out; have : k = b := h2; omega))⟩
    · have HS : Hid ((acc, (-1 : Int), 0) = R) := by have h := HG.out; rw [wk, if_neg hlt] at h; exact h
      have hz : ¬ 0 < s.size - i := by omega
      go_wp2_with (first | (go_at_call 63; refine HL.out.mono ?_; rintro e w' ⟨rfl, n1, rfl⟩))
      rw [Exit.noGoto_ret]
      go_ret2
      rw [← HS.out]
      exact ⟨rfl, hC.fr ((Fr.refl wr).drewN n1) (fun _ _ _ _ => id), hF.drewN n1⟩
end Go.Proofs.YtchgjjegcoiepaaDoor
