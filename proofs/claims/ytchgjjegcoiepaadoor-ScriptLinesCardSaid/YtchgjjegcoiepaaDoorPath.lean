import Derived.Test.YtchgjjegcoiepaaDoorWalk
namespace Go.Proofs.YtchgjjegcoiepaaDoor
open Go.RowKit

/-- a slice of commands, read. -/
def SlC (w : World) (v : Value) (l : List Cmd) : Prop :=
  ∃ A cap, v = .slice A l.length cap ∧ (0 < l.length → ∃ g off, A = some ⟨g, off, none⟩ ∧ Ty w g 60 ∧ ∀ j (h : j < l.length), w.cell? ⟨g, off + j * 2, none⟩ = some (.int .u8 l[j].L) ∧ ∃ av, w.cell? ⟨g, off + j * 2 + 1, none⟩ = some av ∧ SlI w av l[j].A)
theorem SlC.fr {P : Nat → Prop} {w w' : World} {v : Value} {l : List Cmd} (h : SlC w v l) (f : Fr P w w') (hP : ∀ k t, Ty w k t → t = 60 ∨ t = 2 → ¬ P k) : SlC w' v l := by
  obtain ⟨A, cap, rfl, h⟩ := h
  refine ⟨A, cap, rfl, fun hl => ?_⟩
  obtain ⟨g, off, rfl, ht, hc⟩ := h hl
  have hg := hP g 60 ht (.inl rfl)
  refine ⟨g, off, rfl, ht.fr f hg, fun j hj => ?_⟩
  obtain ⟨c1, av, c2, c3⟩ := hc j hj
  exact ⟨(f.cell (p := ⟨g, off + j * 2, none⟩) ht.lt hg).trans c1, av, (f.cell (p := ⟨g, off + j * 2 + 1, none⟩) ht.lt hg).trans c2, c3.fr f (fun k hk => hP k 2 hk (.inr rfl))⟩
theorem cmC_get : ∀ (l : List (Nat × Value)) (j : Nat) (h : j < l.length), (cmC l)[j * 2]? = some (.int .u8 (l[j].1 : Nat)) ∧ (cmC l)[j * 2 + 1]? = some l[j].2
  | (_, _) :: r, 0, _ => ⟨rfl, rfl⟩
  | (_, _) :: r, j + 1, h => by
    have := cmC_get r j (by simpa using h)
    rw [show (j + 1) * 2 = j * 2 + 1 + 1 from by omega]
    exact this
theorem Cl.read {w : World} {ob base : Nat} {l : List Cmd} (h : Cl w ob base l) : ∃ v, Bx w ob 22 v ∧ SlC w v l := by
  obtain ⟨v, pv, h1, h2, h3⟩ := h.ex
  refine ⟨v, h1, ?_⟩
  rcases h2.2 with ⟨rfl, h0⟩ | ⟨g, cap, cur, rfl, _, hh, _⟩
  · exact ⟨none, 0, by rw [h0], fun h => by omega⟩
  · refine ⟨_, cap, rfl, fun hl => ⟨g, 0, rfl, ⟨_, _, hh⟩, fun j hj => ?_⟩⟩
    have hjp : j < pv.length := by rw [h3.1]; exact hj
    obtain ⟨c1, c2⟩ := cmC_get pv j hjp
    obtain ⟨e1, e2⟩ := h3.2 j hjp hj
    have ca : ∀ k, (⟨g, 0, none⟩ : Addr).add k = ⟨g, 0 + k, none⟩ := by
      intro k; simp only [Addr.add]; split
      · rename_i h; rw [h]
      · rfl
    have d1 := World.ownsRow.cells h2 (g := g) rfl _ _ c1
    have d2 := World.ownsRow.cells h2 (g := g) rfl _ _ c2
    rw [ca] at d1 d2
    rw [e1] at d1
    exact ⟨d1, _, d2, e2⟩

def parseP (s : ByteArray) : List Cmd × Int × Nat := if 65536 < s.size then ([], -1, 4) else walkF s
def PathPost (w : World) (r : List Cmd × Int × Nat) (e : Ending) (w' : World) : Prop :=
  ∃ v, e = .returned (.tuple #[v, .int .i64 r.2.1, .int .i64 r.2.2]) ∧ SlC w' v r.1 ∧ Fr No w w'

set_option maxHeartbeats 1000000 in
theorem pathParse_any (s : ByteArray) (w : World) (hs : s.size ≤ 140737488351232) (hT : Tabs w) : Calls Tryd.prog 13 #[.string s] w (PathPost w (parseP s)) := by
  have hmf : ∀ (fn : Fn) (first cap : Array Value) (w : World), (Instr.makeFunc fn first cap).run Tryd.prog w = .ok (.func fn first cap) w := fun _ _ _ _ => rfl
  by_cases hl : 65536 < s.size
  · have e : Hid (parseP s = ([], -1, 4)) := by unfold Hid parseP; rw [if_pos hl]
    have hd : decide ((65536 : Int) < (s.size : Int)) = true := by rw [decide_eq_true_iff]; omega
    clear hl
    rw [e.out]
    go_enter Tryd.func13, Tryd.ntmps13
    go_wp2
    go_ret3
    exact ⟨_, rfl, ⟨none, 0, rfl, fun h => by simp at h⟩, Fr.refl w⟩
  · have e : Hid (parseP s = walkF s) := by unfold Hid parseP; rw [if_neg hl]
    have hd : decide ((65536 : Int) < (s.size : Int)) = false := by rw [decide_eq_false_iff_not]; omega
    have hsz := hT.sz
    have HW := Lib.hid (fun wx ob base (hx : Tabs wx) (h1 : 14 ≤ ob) (h2 : 14 ≤ base) (h3 : base ≤ wx.heap.size) (hC : Cl wx ob base []) => walk_any s ob base wx (by omega) hx h1 h2 h3 hC)
    clear hl
    rw [e.out]
    obtain ⟨R, hR⟩ : ∃ R, walkF s = R := ⟨_, rfl⟩
    rw [hR] at HW ⊢
    clear hR e
    go_enter Tryd.func13, Tryd.ntmps13
    go_wp2_with fail
    generalize hW : World.alloc w _ = W0
    obtain ⟨a0, a1, hF⟩ := al1 hW
    clear hW
    refine (HW.out W0 w.heap.size (w.heap.size + 1) (hT.fr (hF No) (fun _ _ => id)) hsz (by omega) (by omega) ⟨⟨_, [], a1, World.ownsRow_nil _ _ _ _, ⟨rfl, fun j h => by simp at h⟩⟩⟩).mono ?_
    rintro e w1 ⟨rfl, hC1, hF1⟩
    obtain ⟨v, hb, hr⟩ := hC1.read
    have c1 := hb.c
    go_wp2
    go_ret3
    exact ⟨v, rfl, hr, (hF No).then hF1 (fun i h1 h2 => by rcases h2 with h2 | h2 <;> omega)⟩
end Go.Proofs.YtchgjjegcoiepaaDoor
