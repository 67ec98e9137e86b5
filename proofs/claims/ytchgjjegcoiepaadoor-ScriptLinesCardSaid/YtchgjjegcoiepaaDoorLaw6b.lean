/- The law PathJoins: the walk of its function. -/
import Derived.Test.YtchgjjegcoiepaaDoorLaw6
import Derived.Test.YtchgjjegcoiepaaDoorApp
namespace Go.Proofs.YtchgjjegcoiepaaDoor
open Go.RowKit

set_option maxRecDepth 200000 in
set_option maxHeartbeats 2000000 in
theorem joins_no (a b : List Cmd) (va vb : Value) (w : World) (ha : SlCa w va a) (hb : SlCa w vb b) (hT : Tabs w)
    (h : greatF a 20 = true ∨ greatF b 20 = true ∨ (a.length ≤ 20 ∧ b.length ≤ 20 ∧ (mayR a = false ∨ mayR b = false))) :
    Calls Tryd.prog 4 #[va, vb] w fun e w' => e = .returned (.bool true) ∧ Fr No w w' := by
  have HW := Lib.hid (wakes6_any w hT)
  have HGa := Lib.hid (fun wx (hx : SlCa wx va a) => Great_any a 20 va wx hx (by decide))
  have HGb := Lib.hid (fun wx (hx : SlCa wx vb b) => Great_any b 20 vb wx hx (by decide))
  have hab : (greatF a 20 = true) ∨ (greatF a 20 = false ∧ greatF b 20 = true) ∨ (greatF a 20 = false ∧ greatF b 20 = false ∧ a.length ≤ 20 ∧ b.length ≤ 20 ∧ (mayR a = false ∨ (mayR a = true ∧ mayR b = false))) := by
    cases h1 : greatF a 20
    · cases h2 : greatF b 20
      · refine .inr (.inr ⟨rfl, rfl, ?_⟩)
        rcases h with h | h | ⟨h3, h4, h5⟩
        · rw [h1] at h; cases h
        · rw [h2] at h; cases h
        · refine ⟨h3, h4, ?_⟩
          cases h6 : mayR a
          · exact .inl rfl
          · rcases h5 with h5 | h5
            · rw [h6] at h5; cases h5
            · exact .inr ⟨rfl, h5⟩
      · exact .inr (.inl ⟨rfl, rfl⟩)
    · exact .inl rfl
  clear h
  rcases hab with h1 | ⟨h1, h2⟩ | ⟨h1, h2, la, lb, h3⟩
  · rw [h1] at HGa
    clear h1
    go_enter Tryd.func4, Tryd.ntmps4
    go_wp2_with (first | (go_at_call 9; refine HW.out.mono ?_; rintro e w1 ⟨rfl, f1⟩; have s1 := ha.fr f1 (fun _ _ _ _ => id)) | (go_at_call 10; refine (HGa.out _ s1).mono ?_; rintro e w2 ⟨rfl, f2⟩))
    go_ret
    exact ⟨rfl, f1.trans f2⟩
  · rw [h1] at HGa
    rw [h2] at HGb
    clear h1 h2
    go_enter Tryd.func4, Tryd.ntmps4
    go_wp2_with (first | (go_at_call 9; refine HW.out.mono ?_; rintro e w1 ⟨rfl, f1⟩; have s1 := ha.fr f1 (fun _ _ _ _ => id); have tok := trivial) | (go_at_call 10; have _t := tok; refine (HGa.out _ s1).mono ?_; rintro e w2 ⟨rfl, f2⟩; have t2 := (hb.fr f1 (fun _ _ _ _ => id)).fr f2 (fun _ _ _ _ => id); clear tok) | (go_at_call 10; refine (HGb.out _ t2).mono ?_; rintro e w3 ⟨rfl, f3⟩))
    go_ret
    exact ⟨rfl, (f1.trans f2).trans f3⟩
  · rw [h1] at HGa
    rw [h2] at HGb
    have HMa := Lib.hid (fun wx (hx : SlCa wx va a) => May_any a va wx hx (by omega))
    have HMb := Lib.hid (fun wx (hx : SlCa wx vb b) => May_any b vb wx hx (by omega))
    clear h1 h2
    rcases h3 with h3 | ⟨h3, h4⟩
    · rw [h3] at HMa
      clear h3
      go_enter Tryd.func4, Tryd.ntmps4
      go_wp2_with (first
        | (go_at_call 9; refine HW.out.mono ?_; rintro e w1 ⟨rfl, f1⟩; have s1 := ha.fr f1 (fun _ _ _ _ => id); have tok := trivial)
        | (go_at_call 10; have _t := tok; refine (HGa.out _ s1).mono ?_; rintro e w2 ⟨rfl, f2⟩; have s2 := s1.fr f2 (fun _ _ _ _ => id); have t2 := (hb.fr f1 (fun _ _ _ _ => id)).fr f2 (fun _ _ _ _ => id); clear tok)
        | (go_at_call 10; refine (HGb.out _ t2).mono ?_; rintro e w3 ⟨rfl, f3⟩; have s3 := s2.fr f3 (fun _ _ _ _ => id))
        | (go_at_call 12; refine (HMa.out _ s3).mono ?_; rintro e w4 ⟨rfl, f4⟩))
      go_ret
      exact ⟨rfl, ((f1.trans f2).trans f3).trans f4⟩
    · rw [h3] at HMa
      rw [h4] at HMb
      clear h3 h4
      go_enter Tryd.func4, Tryd.ntmps4
      go_wp2_with (first
        | (go_at_call 9; refine HW.out.mono ?_; rintro e w1 ⟨rfl, f1⟩; have s1 := ha.fr f1 (fun _ _ _ _ => id); have tok := trivial)
        | (go_at_call 10; have _t := tok; refine (HGa.out _ s1).mono ?_; rintro e w2 ⟨rfl, f2⟩; have s2 := s1.fr f2 (fun _ _ _ _ => id); have t2 := (hb.fr f1 (fun _ _ _ _ => id)).fr f2 (fun _ _ _ _ => id); clear tok)
        | (go_at_call 10; refine (HGb.out _ t2).mono ?_; rintro e w3 ⟨rfl, f3⟩; have s3 := s2.fr f3 (fun _ _ _ _ => id); have t3 := t2.fr f3 (fun _ _ _ _ => id); have tok2 := trivial)
        | (go_at_call 12; have _t := tok2; refine (HMa.out _ s3).mono ?_; rintro e w4 ⟨rfl, f4⟩; have t4 := t3.fr f4 (fun _ _ _ _ => id); clear tok2)
        | (go_at_call 12; refine (HMb.out _ t4).mono ?_; rintro e w5 ⟨rfl, f5⟩))
      go_ret
      exact ⟨rfl, (((f1.trans f2).trans f3).trans f4).trans f5⟩

set_option maxRecDepth 200000 in
set_option maxHeartbeats 2000000 in
theorem joins_yes (a b : List Cmd) (va vb : Value) (w : World) (ha : SlCa w va a) (hb : SlCa w vb b) (hLa : ∀ c ∈ a, c.L < 256) (hLb : ∀ c ∈ b, c.L < 256) (hT : Tabs w) (hP : TabP w)
    (h1 : greatF a 20 = false) (h2 : greatF b 20 = false) (ma : mayP a = true) (mb : mayP b = true) :
    Calls Tryd.prog 4 #[va, vb] w fun e w' => e = .returned (.bool true) ∧ Fr No w w' := by
  have HW := Lib.hid (wakes6_any w hT)
  have HGa := Lib.hid (fun wx (hx : SlCa wx va a) => Great_any a 20 va wx hx (by decide))
  have HGb := Lib.hid (fun wx (hx : SlCa wx vb b) => Great_any b 20 vb wx hx (by decide))
  obtain ⟨la, ga⟩ := great_no h1
  obtain ⟨lb, gb⟩ := great_no h2
  rw [h1] at HGa
  rw [h2] at HGb
  have HMa := Lib.hid (fun wx (hx : SlCa wx va a) => May_any a va wx hx (by omega))
  have HMb := Lib.hid (fun wx (hx : SlCa wx vb b) => May_any b vb wx hx (by omega))
  rw [← mayP_eq a hLa, ma] at HMa
  rw [← mayP_eq b hLb, mb] at HMb
  have HPa := Lib.hid (fun wx (hx : SlCa wx va a) (fx : Fr No w wx) => PathPrint_any a va wx hx hLa (by omega) (hT.sg.fr fx (by have := hT.sz; omega) id) (hP.fr fx (fun _ _ => id)) (by have := hT.sz; have := fx.size; omega))
  have HPb := Lib.hid (fun wx (hx : SlCa wx vb b) (fx : Fr No w wx) => PathPrint_any b vb wx hx hLb (by omega) (hT.sg.fr fx (by have := hT.sz; omega) id) (hP.fr fx (fun _ _ => id)) (by have := hT.sz; have := fx.size; omega))
  rw [show printF a = (prntL a, true) by unfold printF; rw [ma]; rfl] at HPa
  rw [show printF b = (prntL b, true) by unfold printF; rw [mb]; rfl] at HPb
  obtain ⟨S, hS⟩ : ∃ S : ByteArray, (⟨(prntL a).toArray⟩ : ByteArray) = S := ⟨_, rfl⟩
  obtain ⟨T, hTT⟩ : ∃ S : ByteArray, (⟨(prntL b).toArray⟩ : ByteArray) = S := ⟨_, rfl⟩
  have hSl : S.data.toList = prntL a := by rw [← hS]
  have hTl : T.data.toList = prntL b := by rw [← hTT]
  have hSz : S.size ≤ 6000 := by
    have := prnt_size a (mayP_all ma).1
    have : S.size = (prntL a).length := by rw [← hSl]; rfl
    omega
  have hTz : T.size ≤ 6000 := by
    have := prnt_size b (mayP_all mb).1
    have : T.size = (prntL b).length := by rw [← hTl]; rfl
    omega
  have e32 : (⟨#[32]⟩ : ByteArray).size = 1 := rfl
  have hsum : (S ++ (⟨#[32]⟩ : ByteArray) ++ T).size ≤ 12001 := by rw [ByteArray.size_append, ByteArray.size_append]; omega
  have hpp := parse_join a b ma mb hLa hLb (S ++ (⟨#[32]⟩ : ByteArray) ++ T) (by rw [data_append, data_append, hSl, hTl]; simp) (by omega)
  have HPs := Lib.hid (fun wx (hx : Tabs wx) => pathParse_any (S ++ (⟨#[32]⟩ : ByteArray) ++ T) wx (by omega) hx)
  rw [hpp] at HPs
  have HSa := Lib.hid (fun v1 v2 wx (h1 : SlCa wx v1 (a ++ b)) (h2 : SlCa wx v2 (a ++ b)) => Same_any (a ++ b) (a ++ b) v1 v2 wx h1 h2 (by rw [List.length_append]; omega) (fun c hc => by
    rcases List.mem_append.1 hc with hc | hc
    · have := ga c hc; omega
    · have := gb c hc; omega))
  rw [show sameF (a ++ b) (a ++ b) = true by simp [sameF]] at HSa
  have HPa2 : Hid (∀ wx, SlCa wx va a → Fr No w wx → Calls Tryd.prog 11 #[va] wx (PrintPost wx (prntL a, true))) := HPa.out
  have HPb2 : Hid (∀ wx, SlCa wx vb b → Fr No w wx → Calls Tryd.prog 11 #[vb] wx (PrintPost wx (prntL b, true))) := HPb.out
  unfold PrintPost at HPa2 HPb2
  dsimp only at HPa2 HPb2
  rw [hS] at HPa2
  rw [hTT] at HPb2
  have HLA := Lib.hid la
  have HLB := Lib.hid lb
  clear h1 h2 ma mb la lb ga gb hS hTT hSl hTl hpp HPa HPb hsum e32 hLa hLb
  go_enter Tryd.func4, Tryd.ntmps4
  go_upto_region 5 with (first
    | (go_at_call 9; refine HW.out.mono ?_; rintro e w1 ⟨rfl, f1⟩; have s1 := ha.fr f1 (fun _ _ _ _ => id); have tok := trivial)
    | (go_at_call 10; have _t := tok; refine (HGa.out _ s1).mono ?_; rintro e w2 ⟨rfl, f2⟩; have s2 := s1.fr f2 (fun _ _ _ _ => id); have t2 := (hb.fr f1 (fun _ _ _ _ => id)).fr f2 (fun _ _ _ _ => id); clear tok)
    | (go_at_call 10; refine (HGb.out _ t2).mono ?_; rintro e w3 ⟨rfl, f3⟩; have s3 := s2.fr f3 (fun _ _ _ _ => id); have t3 := t2.fr f3 (fun _ _ _ _ => id); have tok2 := trivial)
    | (go_at_call 12; have _t := tok2; refine (HMa.out _ s3).mono ?_; rintro e w4 ⟨rfl, f4⟩; have s4 := s3.fr f4 (fun _ _ _ _ => id); have t4 := t3.fr f4 (fun _ _ _ _ => id); clear tok2)
    | (go_at_call 12; refine (HMb.out _ t4).mono ?_; rintro e w5 ⟨rfl, f5⟩; have s5 := s4.fr f5 (fun _ _ _ _ => id); have t5 := t4.fr f5 (fun _ _ _ _ => id); have f05 := (((f1.trans f2).trans f3).trans f4).trans f5))
  clear s1 s2 s3 s4 t2 t3 t4 f1 f2 f3 f4 f5 HW HGa HGb HMa HMb
  go_upto_region 6 with (go_at_call 11; refine (HPa2.out _ s5 f05).mono ?_; rintro e w6 ⟨rfl, f6⟩)
  have s6 := s5.fr f6 (fun _ _ _ _ => id)
  have t6 := t5.fr f6 (fun _ _ _ _ => id)
  have f06 := f05.trans f6
  go_upto_region 7 with (go_at_call 11; refine (HPb2.out _ t6 f06).mono ?_; rintro e w7 ⟨rfl, f7⟩)
  have s7 := s6.fr f7 (fun _ _ _ _ => id)
  have t7 := t6.fr f7 (fun _ _ _ _ => id)
  have f07 := f06.trans f7
  clear s5 s6 t5 t6 f6 f7 f05 f06 HPa2 HPb2
  go_upto_region 8 with (go_at_call 13; refine (HPs.out _ (hT.fr f07 (fun _ _ => id))).mono ?_; rintro e w8 ⟨bv, rfl, sb0, f8⟩; have sb := sb0.weak)
  have s8 := s7.fr f8 (fun _ _ _ _ => id)
  have t8 := t7.fr f8 (fun _ _ _ _ => id)
  have f08 := f07.trans f8
  clear s7 t7 f07 f8 HPs
  obtain ⟨A, cA, rfl, _⟩ := id ha
  obtain ⟨B, cB, rfl, _⟩ := id hb
  obtain ⟨pa, pva, sa⟩ := s8.src
  obtain ⟨pb, pvb, sb2⟩ := t8.src
  have hla := HLA.out
  have hlb := HLB.out
  have fA : Fr No w8 (w8.alloc (.cells #[] 60)) := (Fr.refl w8).alloc _
  have own0 : (w8.alloc (.cells #[] 60)).ownsRow w8.heap.size 60 2 (.slice (some ⟨w8.heap.size, 0, none⟩) 0 0) 0 [] :=
    ⟨by simp, .inr ⟨w8.heap.size, 0, #[], rfl, Nat.le_refl _, alloc_block _ _, by omega, by unfold maxLen; omega, rfl, rfl⟩⟩
  go_wp2_with (first
    | (at_builtin; refine wpList_app_src rfl (.tmp 63) (.tmp 64) 22 rfl w8.heap.size 60 (.agg #[.int .u8 0, .slice none 0 0]) 2 32 Tryd.underlying22 info60 rfl (by decide) (.slice (some ⟨w8.heap.size, 0, none⟩) 0 0) 0 [] rfl own0 A a.length cA (cmC pa) rfl (sa.fr fA (fun _ _ => id)) pva.one (by omega) (by omega) fA.size ?_; intro A1 c1 w9 o1 f9; simp only [Nat.zero_add, List.nil_append] at o1 ⊢; have f89 : Fr No w8 w9 := fA.then f9 (fun i h1 h2 => by omega))
    | (at_builtin; refine wpList_app_src rfl (.tmp 65) (.tmp 66) 22 rfl w8.heap.size 60 (.agg #[.int .u8 0, .slice none 0 0]) 2 32 Tryd.underlying22 info60 rfl (by decide) _ a.length (cmC pa) rfl o1 B b.length cB (cmC pb) rfl (sb2.fr f89 (fun _ _ => id)) pvb.one (by omega) (by omega) f89.size ?_; intro A2 c2 w10 o2 f10; have f810 : Fr No w8 w10 := f89.then f10 (fun i h1 h2 => by omega); have sb10 := sb.fr f810 (fun _ _ _ _ => id); have s10 : SlCa w10 (.slice A2 (a.length + b.length) c2) (a ++ b) := SlCa.of_own (pv := pa ++ pb) (by rw [List.length_append, cmC_app]; exact o2) ((pva.fr f810 (fun _ _ => id)).app (pvb.fr f810 (fun _ _ => id))))
    | (go_at_call 15; refine (HSa.out _ _ _ sb10 s10).mono ?_; rintro e w11 ⟨rfl, f11⟩))
  go_ret
  exact ⟨rfl, (f08.trans f810).trans f11⟩

theorem PathJoins_any (a b : List Cmd) (va vb : Value) (w : World) (ha : SlCa w va a) (hb : SlCa w vb b) (hLa : ∀ c ∈ a, c.L < 256) (hLb : ∀ c ∈ b, c.L < 256) (hT : Tabs w) (hP : TabP w) :
    Calls Tryd.prog 4 #[va, vb] w fun e w' => e = .returned (.bool true) ∧ Fr No w w' := by
  by_cases h1 : greatF a 20 = true
  · exact joins_no a b va vb w ha hb hT (.inl h1)
  by_cases h2 : greatF b 20 = true
  · exact joins_no a b va vb w ha hb hT (.inr (.inl h2))
  rw [Bool.not_eq_true] at h1 h2
  by_cases h3 : mayP a = true ∧ mayP b = true
  · exact joins_yes a b va vb w ha hb hLa hLb hT hP h1 h2 h3.1 h3.2
  · refine joins_no a b va vb w ha hb hT (.inr (.inr ⟨(great_no h1).1, (great_no h2).1, ?_⟩))
    rw [← mayP_eq a hLa, ← mayP_eq b hLb]
    cases h4 : mayP a
    · exact .inl rfl
    · cases h5 : mayP b
      · exact .inr rfl
      · exact absurd ⟨h4, h5⟩ h3
end Go.Proofs.YtchgjjegcoiepaaDoor
