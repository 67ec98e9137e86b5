/- PathPrints: for every list of commands the program's text of them is the document's, or there is none, and it is parsed as the same commands. No condition but that the listed package-level variables start as the program's text lays them (the card ties them). -/
import Derived.Test.YtchgjjegcoiepaaDoorRow6
import Derived.Test.YtchgjjegcoiepaaDoorCards
import Derived.Test.YtchgjjegcoiepaaDoorTie
namespace Go.Proofs.YtchgjjegcoiepaaDoor
open Go
theorem pathPrints_card : Rows.PathPrintsCardSaid :=
  Claim7.holds_tied_plain_at .later [] [.data, .data, .data, .data, .data, .data, .widerDeep] true (true, "3f04f5eb051afde64a2d6055c815afff5c2c5ce3e47dcae23f44cf7b54565d2b") true
    pathPrints_holds (fun _ h => by cases h) (by kernel_rfl) (fun _ h => by cases h) pathPrints_row_tie rfl ⟨rfl, rfl⟩ (by kernel_rfl) rfl
    (fun f fn hf hfn => by
      obtain rfl : f = 3 := Option.some.inj ((show Tryd.prog.funcNamed "pointillist/pointillistlaw06.PathPrints" = some 3 by kernel_rfl).symm.trans hf) |>.symm
      obtain rfl : fn = Tryd.f3 := (Option.some.inj (Tryd.func3.symm.trans hfn)).symm
      exact ⟨by kernel_rfl, fun j t ht => by
        rw [Tryd.params3] at ht
        have h3 : t = 22 := by
          rcases j with _ | j
          · simpa using ht.symm
          · simp at ht
        subst h3
        exact (show Tryd.prog.wantsStandIn 22 = false by kernel_rfl)⟩)
    (by kernel_rfl)
#print axioms pathPrints_card
end Go.Proofs.YtchgjjegcoiepaaDoor
