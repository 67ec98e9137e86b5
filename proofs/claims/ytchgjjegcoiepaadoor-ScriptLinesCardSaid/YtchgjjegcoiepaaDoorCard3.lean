/- ScriptLines: at every text and stop, where the iterator is stopped is where the yields end. No condition but that the listed package-level variables start as the program's text lays them (the card ties them). -/
import Derived.Test.YtchgjjegcoiepaaDoorRow24a
import Derived.Test.YtchgjjegcoiepaaDoorCards
import Derived.Test.YtchgjjegcoiepaaDoorTie
namespace Go.Proofs.YtchgjjegcoiepaaDoor
open Go
theorem scriptLines_card : Rows.ScriptLinesCardSaid :=
  Claim7.holds_tied_plain_at .later [] [.data, .data, .data, .data, .sentinel, .sentinel, .data, .data, .widerDeep] true (true, "3f04f5eb051afde64a2d6055c815afff5c2c5ce3e47dcae23f44cf7b54565d2b") true
    scriptLines_holds (fun _ h => by cases h) (by kernel_rfl) (fun _ h => by cases h) scriptLines_row_tie rfl ⟨rfl, rfl⟩ (by kernel_rfl) rfl
    (fun f fn hf hfn => by
      obtain rfl : f = 6 := Option.some.inj ((show Tryd.prog.funcNamed "pointillist/pointillistlaw24.ScriptLines" = some 6 by kernel_rfl).symm.trans hf) |>.symm
      obtain rfl : fn = Tryd.f6 := (Option.some.inj (Tryd.func6.symm.trans hfn)).symm
      exact ⟨by kernel_rfl, fun j t ht => by
        rw [Tryd.params6] at ht
        have h3 : t = 9 ∨ t = 5 := by
          rcases j with _ | _ | j
          · exact .inl (by simpa using ht.symm)
          · exact .inr (by simpa using ht.symm)
          · simp at ht
        rcases h3 with rfl | rfl
        · exact (show Tryd.prog.wantsStandIn 9 = false by kernel_rfl)
        · exact (show Tryd.prog.wantsStandIn 5 = false by kernel_rfl)⟩)
    (by kernel_rfl)
#print axioms scriptLines_card
end Go.Proofs.YtchgjjegcoiepaaDoor
