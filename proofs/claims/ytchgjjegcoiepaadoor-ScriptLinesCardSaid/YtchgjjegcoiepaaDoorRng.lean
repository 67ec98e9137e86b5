/- A RANGE OVER A FUNCTION, by frames: the iterator's call is walked with the loop's record at hand. -/
import Derived.Test.YtchgjjegcoiepaaDoorBase
import Derived.RangeFuncNested
import Derived.RangeFuncBound
import Derived.RangeFuncCalls
import Derived.RangeFuncLeaves
import Derived.OwnWalkIn
import Derived.TacticsInMore
import Derived.LoopNIn
import Derived.LoopIn
namespace Go.Proofs.YtchgjjegcoiepaaDoor
open Go Go.RowKit
variable {F : Fence} {n : Nat} {P : Program}

theorem Fr.put {P : Nat → Prop} {a w : World} (h : Fr P a w) {l : Nat} (o : Obj) (hl : P l ∨ a.heap.size ≤ l) : Fr P a (w.putObj l o) :=
  h.then (Q := fun k => k = l) ⟨rfl, rfl, rfl, by simp, fun k _ hP => World.putObj_heap_other hP⟩
    (fun i hi e => by rcases hl with h' | h'
                      · exact e ▸ h'
                      · exact absurd (e ▸ hi) (by omega))

/-- the record of a loop, with a state and a jump. -/
def rec0 (fn : FuncId) (tmps : Array Value) (ps : Array Tmp) (assign body : Code) (D : Nat) (s : LoopState) (j : Option Code) : Loop := { state := s, pending := j, fn, tmps, params := ps, assign, body, defers := D }

/-- how a round is left. -/
def rPost (l : Nat) (r : LoopState → Option Code → Loop) (R : Ending → World → Prop) : Exit → Act → World → Prop
  | .normal, _, W => W.heap[l]? = some (.loop (r .busy none)) ∧ R (.returned (.bool true)) (W.putObj l (.loop (r .ready none)))
  | .ret, _, W => W.heap[l]? = some (.loop (r .busy none)) ∧ R (.returned (.bool false)) (W.putObj l (.loop (r .done (some .ret))))
  | .exit i, _, W => W.heap[l]? = some (.loop (r .busy none)) ∧ R (.returned (.bool false)) (W.putObj l (.loop (r .done (some (.exit i)))))
  | .goto t, _, W => W.heap[l]? = some (.loop (r .busy none)) ∧ R (.returned (.bool false)) (W.putObj l (.loop (r .done (some (.goto t)))))
  | .panic _, _, _ => False
  | .outgrown, _, _ => False

/-- one round: yield is called, the assignment and the body are walked. -/
theorem yield_rng {l : Nat} {fn : FuncId} {tmps : Array Value} {ps : Array Tmp} {assign body : Code} {D : Nat} {W : World} {x : Array Value} {R : Ending → World → Prop} (hF : F.fn fn)
    (hl : W.heap[l]? = some (.loop (rec0 fn tmps ps assign body D .ready none))) (hx : x.size = ps.size)
    (h : assign.wpIn (F.inRound l) n P (Exit.then (fun a₁ W₁ => W₁.heap[l]? = some (.loop (rec0 fn tmps ps assign body D .ready none)) ∧
        body.wpIn (F.inRound l) n P (rPost l (rec0 fn tmps ps assign body D) R) a₁ (W₁.putObj l (.loop (rec0 fn tmps ps assign body D .busy none)))) (fun _ _ _ => False))
      { tmps := (ps.zip x).foldl (fun t (p, v) => t.setIfInBounds p v) tmps, defers := [] } W) :
    YieldAt F n P l x W R := by
  refine ⟨fn, _, assign, body, run_yield hl hx, roundIn_of_wpIn hF (wpIn_mono h ?_)⟩
  rintro e a₁ W₁ hp
  cases e with
  | normal =>
    obtain ⟨hl1, hb⟩ := hp
    refine ⟨_, run_beginRound hl1 rfl, wpIn_mono hb ?_⟩
    rintro e2 a2 W2 hp2
    cases e2 with
    | normal => exact ⟨_, _, run_endRound none hp2.1, hp2.2⟩
    | ret => exact ⟨_, _, run_endRound (some .ret) hp2.1, hp2.2⟩
    | exit i => exact ⟨_, _, run_endRound (some (.exit i)) hp2.1, hp2.2⟩
    | goto t => exact ⟨_, _, run_endRound (some (.goto t)) hp2.1, hp2.2⟩
    | panic c => exact hp2.elim
    | outgrown => exact hp2.elim
  | _ => exact hp.elim

/-- what the iterator's call must come to. -/
def itPost (F : Fence) (n : Nat) (P : Program) (l : Nat) (r : LoopState → Option Code → Loop) (Q : Exit → Act → World → Prop) (a' : Act) (e : Ending) (W : World) : Prop :=
  (∃ v, e = .returned v) ∧ ((W.heap[l]? = some (.loop (r .ready none)) ∧ Q .normal a' (W.putObj l (.loop (r .exhausted none)))) ∨
    ∃ c, W.heap[l]? = some (.loop (r .done (some c))) ∧ c.wpIn F n P Q a' (W.putObj l (.loop (r .exhausted (some c)))))

/-- the statement, not within another loop's round. -/
theorem wpIn_rng {g : Operand} {ps : Array Tmp} {assign body : Code} {Q : Exit → Act → World → Prop} {a : Act} {w : World} (hro : F.round = none) (h1 : 1 ≤ n) {gf : Nat} {lb : Array Value}
    (hg : a.eval g = .func (.func gf) #[] lb) (hFg : F.fn gf) (eg : ∀ args w, (callFunc gf args).run P w = .ok (.enter gf args) w)
    (h : ∀ fn, F.fn fn → CallsIn F (n - 1) P gf (#[.func (.yield (w.heap.size + 1)) #[] #[]] ++ lb) ((w.alloc (.deferred (some []))).alloc (.loop (rec0 fn a.tmps ps assign body w.heap.size .ready none)))
      (itPost F n P (w.heap.size + 1) (rec0 fn a.tmps ps assign body w.heap.size) Q { a with defers := { target := .collected w.heap.size, args := #[] } :: a.defers })) :
    (Code.rangeFunc g ps assign body).wpIn F n P Q a w := by
  refine wpIn_rangeFunc ?_
  intro fn hfn
  rw [hro]
  have hE := run_enterLoop_outer (P := P) (w := w) fn a.tmps ps assign body
  refine ⟨w.heap.size + 1, [{ target := .collected w.heap.size, args := #[] }], (w.alloc (.deferred (some []))).alloc (.loop (rec0 fn a.tmps ps assign body w.heap.size .ready none)), { target := .fn (.func gf) lb, args := #[.func (.yield (w.heap.size + 1)) #[] #[]] }, (w.alloc (.deferred (some []))).alloc (.loop (rec0 fn a.tmps ps assign body w.heap.size .ready none)), gf,
    #[.func (.yield (w.heap.size + 1)) #[] #[]] ++ lb, (w.alloc (.deferred (some []))).alloc (.loop (rec0 fn a.tmps ps assign body w.heap.size .ready none)), hE, ?_, ?_, ?_, fun _ => h1, ?_⟩
  · simp only [resolve, hg]
    simp [go_sem]
  · intro f' hf'
    simp [Target.leads] at hf'
    subst hf'
    exact hFg
  · simp [invoke, go_sem, eg]
  · refine (h fn hfn).mono ?_
    rintro e W ⟨⟨v, rfl⟩, ⟨hl, hQ⟩ | ⟨c, hl, hQ⟩⟩
    · exact ⟨none, _, run_endLoop hl (by simp [rec0]), hQ⟩
    · exact ⟨some c, _, run_endLoop hl (by simp [rec0]), hQ⟩

/-- the statement within a round of another loop. -/
theorem wpIn_rngN {g : Operand} {ps : Array Tmp} {assign body : Code} {Q : Exit → Act → World → Prop} {a : Act} {w : World} {l₀ : Nat} {r₀ : Loop} (hro : F.round = some l₀) (hr₀ : w.heap[l₀]? = some (.loop r₀)) (h1 : 1 ≤ n) {gf : Nat} {lb : Array Value}
    (hg : a.eval g = .func (.func gf) #[] lb) (hFg : F.fn gf) (eg : ∀ args w, (callFunc gf args).run P w = .ok (.enter gf args) w)
    (h : ∀ fn, F.fn fn → CallsIn F (n - 1) P gf (#[.func (.yield w.heap.size) #[] #[]] ++ lb) (w.alloc (.loop (rec0 fn a.tmps ps assign body r₀.defers .ready none)))
      (itPost F n P w.heap.size (rec0 fn a.tmps ps assign body r₀.defers) Q a)) :
    (Code.rangeFunc g ps assign body).wpIn F n P Q a w := by
  refine wpIn_rangeFunc ?_
  intro fn hfn
  rw [hro]
  have hE := run_enterLoop_inner (P := P) hr₀ fn a.tmps ps assign body
  refine ⟨w.heap.size, [], w.alloc (.loop (rec0 fn a.tmps ps assign body r₀.defers .ready none)), { target := .fn (.func gf) lb, args := #[.func (.yield w.heap.size) #[] #[]] }, w.alloc (.loop (rec0 fn a.tmps ps assign body r₀.defers .ready none)), gf,
    #[.func (.yield w.heap.size) #[] #[]] ++ lb, w.alloc (.loop (rec0 fn a.tmps ps assign body r₀.defers .ready none)), hE, ?_, ?_, ?_, fun _ => h1, ?_⟩
  · simp only [resolve, hg]
    simp [go_sem]
  · intro f' hf'
    simp [Target.leads] at hf'
    subst hf'
    exact hFg
  · simp [invoke, go_sem, eg]
  · refine (h fn hfn).mono ?_
    rintro e W ⟨⟨v, rfl⟩, ⟨hl, hQ⟩ | ⟨c, hl, hQ⟩⟩
    · exact ⟨none, _, run_endLoop hl (by simp [rec0]), hQ⟩
    · exact ⟨some c, _, run_endLoop hl (by simp [rec0]), hQ⟩

/-- what the iterator's call must come to, outside every fence. -/
def itPostW (P : Program) (l : Nat) (r : LoopState → Option Code → Loop) (Q : Exit → Act → World → Prop) (a' : Act) (e : Ending) (W : World) : Prop :=
  (∃ v, e = .returned v) ∧ ((W.heap[l]? = some (.loop (r .ready none)) ∧ Q .normal a' (W.putObj l (.loop (r .exhausted none)))) ∨
    ∃ c, W.heap[l]? = some (.loop (r .done (some c))) ∧ c.wp P Q a' (W.putObj l (.loop (r .exhausted (some c)))))
/-- one round of a loop whose record is r. -/
def RoundRule (F : Fence) (P : Program) (r : LoopState → Option Code → Loop) (tmps : Array Value) (ps : Array Tmp) (assign body : Code) : Prop :=
  ∀ (n l : Nat) (W : World) (x : Array Value) (R : Ending → World → Prop), W.heap[l]? = some (.loop (r .ready none)) → x.size = ps.size →
    assign.wpIn (F.inRound l) n P (Exit.then (fun a₁ W₁ => W₁.heap[l]? = some (.loop (r .ready none)) ∧ body.wpIn (F.inRound l) n P (rPost l r R) a₁ (W₁.putObj l (.loop (r .busy none)))) (fun _ _ _ => False))
      { tmps := (ps.zip x).foldl (fun t (p, v) => t.setIfInBounds p v) tmps, defers := [] } W → YieldAt F n P l x W R
theorem wp_rng {g : Operand} {ps : Array Tmp} {assign body : Code} {Q : Exit → Act → World → Prop} {a : Act} {w : World} {gf : Nat} {lb : Array Value}
    (hg : a.eval g = .func (.func gf) #[] lb) (eg : ∀ args w, (callFunc gf args).run P w = .ok (.enter gf args) w)
    (h : ∀ r, RoundRule Fence.wide P r a.tmps ps assign body → CallsIn Fence.wide 2 P gf (#[.func (.yield (w.heap.size + 1)) #[] #[]] ++ lb) ((w.alloc (.deferred (some []))).alloc (.loop (r .ready none)))
      (itPostW P (w.heap.size + 1) r Q { a with defers := { target := .collected w.heap.size, args := #[] } :: a.defers })) :
    (Code.rangeFunc g ps assign body).wp P Q a w := by
  refine (wpIn_wide (n := 3)).1 (wpIn_rng rfl (by decide) hg trivial eg (fun fn _ => (h _ ?_).mono ?_))
  · intro n l W x R hl hx hh
    exact yield_rng trivial hl hx hh
  · rintro e W ⟨h1, ⟨h2, h3⟩ | ⟨c, h2, h3⟩⟩
    · exact ⟨h1, .inl ⟨h2, h3⟩⟩
    · exact ⟨h1, .inr ⟨c, h2, wpIn_wide.2 h3⟩⟩
theorem calls_of_marks {f : FuncId} {fn : Func} {c : Code} {args : Array Value} {w : World} {R : Ending → World → Prop} (hf : P.funcs[f]? = some fn) (hb : fn.body = some c)
    (h : c.wp P (bodyPostM Fence.wide 3 P fn R) { tmps := args ++ Array.replicate (fn.ntmps - args.size) undef, defers := [] } w) : Calls P f args w R :=
  (callsIn_wide (n := 3)).1 (callsIn_of_wp_marks hf hb trivial (wpIn_wide.2 h))
end Go.Proofs.YtchgjjegcoiepaaDoor
