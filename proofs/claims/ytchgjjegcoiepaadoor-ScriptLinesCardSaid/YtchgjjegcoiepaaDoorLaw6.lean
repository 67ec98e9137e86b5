/- The laws PathPrints and PathJoins: the walk of their functions. -/
import Derived.Test.YtchgjjegcoiepaaDoorRefP6
import Derived.Test.YtchgjjegcoiepaaDoorSame
namespace Go.Proofs.YtchgjjegcoiepaaDoor
open Go.RowKit

theorem parse_tx1 : parseP ⟨#[77, 49, 32, 50, 32, 51, 32, 52, 122]⟩ = ([⟨77, [65536, 131072]⟩, ⟨76, [196608, 262144]⟩, ⟨122, []⟩], -1, 0) := by kernel_rfl
theorem parse_tx2 : parseP ⟨#[77, 49, 32, 50, 44, 76, 51, 32, 52]⟩ = ([⟨77, [65536, 131072]⟩], 5, 3) := by kernel_rfl

set_option maxRecDepth 200000 in
set_option maxHeartbeats 1000000 in
theorem wakes6_any (w : World) (hT : Tabs w) : Calls Tryd.prog 9 #[] w fun e w' => e = .returned (.bool true) ∧ Fr No w w' := by
  have H1 := pathParse_any ⟨#[77, 49, 32, 50, 32, 51, 32, 52, 122]⟩ w (by decide) hT
  have H2 := fun wx (hx : Tabs wx) => pathParse_any ⟨#[77, 49, 32, 50, 44, 76, 51, 32, 52]⟩ wx (by decide) hx
  rw [parse_tx1] at H1
  simp only [parse_tx2] at H2
  have H1 := Lib.hid H1
  have H2 := Lib.hid H2
  go_enter Tryd.func9, Tryd.ntmps9
  go_upto_region 2 with (go_at_call 13; refine H1.out.mono ?_; rintro e w1 ⟨v1, rfl, s1, f1⟩; obtain ⟨A1, cap1, rfl, _⟩ := id s1)
  go_upto_region 3 with (go_at_call 13; refine (H2.out _ (hT.fr f1 (fun _ _ => id))).mono ?_; rintro e w2 ⟨v2, rfl, s2, f2⟩; obtain ⟨A2, cap2, rfl, _⟩ := id s2)
  obtain ⟨g, off, rfl, ht, hc⟩ := s1.weak.parts (by simp)
  have c1 : w2.cell? ⟨g, off + 2, none⟩ = some (.int .u8 76) := (f2.cell (p := ⟨g, off + 2, none⟩) ht.lt id).trans (hc 1 (by simp)).1
  clear hc
  go_wp2
  go_ret
  exact ⟨rfl, f1.trans f2⟩

theorem great_no {l : List Cmd} {m : Nat} (h : greatF l m = false) : l.length ≤ m ∧ ∀ c ∈ l, c.A.length ≤ 20 := by
  unfold greatF at h
  simp only [Bool.not_eq_false', decide_eq_true_iff] at h
  refine ⟨h.1, fun c hc => ?_⟩
  obtain ⟨j, hj, rfl⟩ := List.getElem_of_mem hc
  exact h.2 j hj
theorem prnt_size (l : List Cmd) (h : ∀ c ∈ l, rightP c.L c.A = true) : (prntL l).length ≤ 300 * l.length := by
  have := prnt_take_len l h l.length
  rwa [List.take_of_length_le (Nat.le_refl _)] at this

set_option maxRecDepth 200000 in
set_option maxHeartbeats 2000000 in
theorem PathPrints_any (l : List Cmd) (lv : Value) (w : World) (h : SlCa w lv l) (hL : ∀ c ∈ l, c.L < 256) (hT : Tabs w) (hP : TabP w) :
    Calls Tryd.prog 3 #[lv] w fun e w' => e = .returned (.bool true) ∧ Fr No w w' := by
  have HW := Lib.hid (wakes6_any w hT)
  have HG := Lib.hid (fun wx (hx : SlCa wx lv l) => Great_any l 30 lv wx hx (by decide))
  cases hg : greatF l 30 with
  | true =>
    rw [hg] at HG
    clear hg
    go_enter Tryd.func3, Tryd.ntmps3
    go_wp2_with (first | (go_at_call 9; refine HW.out.mono ?_; rintro e w1 ⟨rfl, f1⟩; have s1 := h.fr f1 (fun _ _ _ _ => id)) | (go_at_call 10; refine (HG.out _ s1).mono ?_; rintro e w2 ⟨rfl, f2⟩))
    go_ret
    exact ⟨rfl, f1.trans f2⟩
  | false =>
    rw [hg] at HG
    obtain ⟨hlen, hargs⟩ := great_no hg
    clear hg
    have hme := mayP_eq l hL
    have HPr := Lib.hid (fun wx (hx : SlCa wx lv l) (fx : Fr No w wx) => PathPrint_any l lv wx hx hL (by omega) (hT.sg.fr fx (by have := hT.sz; omega) id) (hP.fr fx (fun _ _ => id)) (by have := hT.sz; have := fx.size; omega))
    have HMy := Lib.hid (fun wx (hx : SlCa wx lv l) => May_any l lv wx hx (by omega))
    cases hm : mayP l with
    | false =>
      have e1 : printF l = ([], false) := by unfold printF; rw [hm]; rfl
      rw [← hme, hm] at HMy
      rw [e1] at HPr
      clear hm hme e1 hargs hlen
      go_enter Tryd.func3, Tryd.ntmps3
      go_wp2_with (first
        | (go_at_call 9; refine HW.out.mono ?_; rintro e w1 ⟨rfl, f1⟩; have s1 := h.fr f1 (fun _ _ _ _ => id))
        | (go_at_call 10; refine (HG.out _ s1).mono ?_; rintro e w2 ⟨rfl, f2⟩; have s2 := s1.fr f2 (fun _ _ _ _ => id); have f02 := f1.trans f2)
        | (go_at_call 11; refine (HPr.out _ s2 f02).mono ?_; rintro e w3 ⟨rfl, f3⟩; have s3 := s2.fr f3 (fun _ _ _ _ => id))
        | (go_at_call 12; refine (HMy.out _ s3).mono ?_; rintro e w4 ⟨rfl, f4⟩))
      go_ret
      exact ⟨rfl, (f02.trans f3).trans f4⟩
    | true =>
      have e1 : printF l = (prntL l, true) := by unfold printF; rw [hm]; rfl
      rw [← hme, hm] at HMy
      rw [e1] at HPr
      have hall := (mayP_all hm).1
      have hz := prnt_size l hall
      have HP6 := Lib.hid (fun wx (hx : SlCa wx lv l) => Print6_any l lv wx hx (fun c hc => ⟨hL c hc, hall c hc⟩) (by omega))
      obtain ⟨S, hS⟩ : ∃ S : ByteArray, (⟨(prntL l).toArray⟩ : ByteArray) = S := ⟨_, rfl⟩
      have hSl : S.data.toList = prntL l := by rw [← hS]
      have hSz : S.size ≤ 9000 := by
        have : S.size = (prntL l).length := by rw [← hSl]; rfl
        omega
      have hpp := parse_print l hm hL S hSl (by omega)
      have HPa := Lib.hid (fun wx (hx : Tabs wx) => pathParse_any S wx (by omega) hx)
      rw [hpp] at HPa
      have HSa := Lib.hid (fun va wx (ha : SlCa wx va l) (hb : SlCa wx lv l) => Same_any l l va lv wx ha hb (by omega) (fun c hc => by have := hargs c hc; omega))
      rw [show sameF l l = true by simp [sameF]] at HSa
      have HPr2 : Hid (∀ wx, SlCa wx lv l → Fr No w wx → Calls Tryd.prog 11 #[lv] wx (PrintPost wx (prntL l, true))) := HPr.out
      unfold PrintPost at HPr2
      dsimp only at HPr2
      rw [hS] at HPr2 HP6
      clear hm hme e1 hargs hlen hall hz hS hSl hpp HPr
      go_enter Tryd.func3, Tryd.ntmps3
      go_wp2_with (first
        | (go_at_call 9; refine HW.out.mono ?_; rintro e w1 ⟨rfl, f1⟩; have s1 := h.fr f1 (fun _ _ _ _ => id))
        | (go_at_call 10; refine (HG.out _ s1).mono ?_; rintro e w2 ⟨rfl, f2⟩; have s2 := s1.fr f2 (fun _ _ _ _ => id); have f02 := f1.trans f2)
        | (go_at_call 11; refine (HPr2.out _ s2 f02).mono ?_; rintro e w3 ⟨rfl, f3⟩; have s3 := s2.fr f3 (fun _ _ _ _ => id))
        | (go_at_call 12; refine (HMy.out _ s3).mono ?_; rintro e w4 ⟨rfl, f4⟩; have s4 := s3.fr f4 (fun _ _ _ _ => id); have f04 := (f02.trans f3).trans f4)
        | (go_at_call 13; refine (HPa.out _ (hT.fr f04 (fun _ _ => id))).mono ?_; rintro e w5 ⟨bv, rfl, sb0, f5⟩; have sb := sb0.weak; have s5 := s4.fr f5 (fun _ _ _ _ => id))
        | (go_at_call 14; refine (HP6.out _ s5).mono ?_; rintro e w6 ⟨rfl, f6⟩; have s6 := s5.fr f6 (fun _ _ _ _ => id); have sb6 := sb.fr f6 (fun _ _ _ _ => id))
        | (go_at_call 15; refine (HSa.out _ _ sb6 s6).mono ?_; rintro e w7 ⟨rfl, f7⟩))
      go_ret
      exact ⟨rfl, ((f04.trans f5).trans f6).trans f7⟩
end Go.Proofs.YtchgjjegcoiepaaDoor
