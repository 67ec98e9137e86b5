/- PathJoins: path data of two lists of commands, one behind the other, are parsed as those of both. No condition but that the listed package-level variables start as the program's text lays them (the card ties them). -/
import Derived.Test.YtchgjjegcoiepaaDoorRow6
import Derived.Test.YtchgjjegcoiepaaDoorCards
import Derived.Test.YtchgjjegcoiepaaDoorTie
namespace Go.Proofs.YtchgjjegcoiepaaDoor
open Go
theorem pathJoins_card : Rows.PathJoinsCardSaid :=
  Claim7.holds_tied_plain_at .later [] [.data, .data, .data, .data, .data, .data, .widerDeep] true (true, "3f04f5eb051afde64a2d6055c815afff5c2c5ce3e47dcae23f44cf7b54565d2b") true
    pathJoins_holds (fun _ h => by cases h) (by kernel_rfl) (fun _ h => by cases h) pathJoins_row_tie rfl ⟨rfl, rfl⟩ (by kernel_rfl) rfl
    (fun f fn hf hfn => by
      obtain rfl : f = 4 := Option.some.inj ((show Tryd.prog.funcNamed "pointillist/pointillistlaw06.PathJoins" = some 4 by kernel_rfl).symm.trans hf) |>.symm
      obtain rfl : fn = Tryd.f4 := (Option.some.inj (Tryd.func4.symm.trans hfn)).symm
      exact ⟨by kernel_rfl, fun j t ht => by
        rw [Tryd.params4] at ht
        have h3 : t = 22 := by
          rcases j with _ | _ | j
          · simpa using ht.symm
          · simpa using ht.symm
          · simp at ht
        subst h3
        exact (show Tryd.prog.wantsStandIn 22 = false by kernel_rfl)⟩)
    (by kernel_rfl)
#print axioms pathJoins_card
end Go.Proofs.YtchgjjegcoiepaaDoor
