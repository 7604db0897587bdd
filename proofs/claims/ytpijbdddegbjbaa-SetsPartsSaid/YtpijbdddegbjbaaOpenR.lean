/- What a slice of records, of turns, that came in leads to. Condition: none; the weights are handed on. -/
import Derived.Test.YtpijbdddegbjbaaTurnM
import Derived.SizedLaws
namespace Go.Proofs.Ytpijbdddegbjbaa
open Go.RowKit Go.Proofs Go.Sort Go.ChangeShapes Go.WideShapes
section
variable {H : Type} {enc : TypeId × Value → H} {w : World} {base : Nat} {spare : Nat → Bool} {held : Bool}
theorem weightsAll_mem {P : Program} {e : TypeId} : ∀ {ds : List (DataW H)} {d : DataW H}, d ∈ ds → ∀ n ∈ d.weights P e, n ∈ DataW.weightsAll P e ds
  | x :: ds, d, hd, n, hn => by
    simp only [DataW.weightsAll, List.mem_append]
    rcases List.mem_cons.1 hd with rfl | hd
    · exact .inl hn
    · exact .inr (weightsAll_mem hd n hn)
theorem five {α : Type} (l : List α) (h : l.length = 5) : ∃ a b c d e, l = [a, b, c, d, e] := by
  match l, h with
  | [a, b, c, d, e], _ => exact ⟨a, b, c, d, e, rfl⟩
set_option maxRecDepth 10000 in
theorem open_recs {fuel : Nat} {cs : List Value} {x : DataW H × List MemPlace} (h : DataW.trod enc Try.prog w base spare held fuel 23 cs = some x) :
    ∃ v l, cs = [v] ∧ RecsAt w v l ∧ (∀ r ∈ l, r.1.size ∈ x.1.weights Try.prog 23 ∧ r.2.2.2.2.size ∈ x.1.weights Try.prog 23) ∧ (l = [] ∨ ∃ c, l.length ≤ c ∧ c * 56 ∈ x.1.weights Try.prog 23) := by
  have hc : Try.prog.cellsOf 43 = 5 := by kernel_rfl
  have hcb : Try.prog.bytesOf 43 = 56 := by kernel_rfl
  have hci : Try.prog.cellsOf 3 = 1 := by kernel_rfl
  have hcs : Try.prog.cellsOf 9 = 1 := by kernel_rfl
  rcases Go.Deep.open_slice Try.underlying23 h with ⟨rfl, _⟩ | ⟨a, len, cap, m, n, D, Pl, rfl, hb, hl, hm, hmm, hx, hi⟩
  · exact ⟨_, [], rfl, ⟨none, 0, rfl, by intro i h; simp at h⟩, by simp, .inl rfl⟩
  · rw [hc] at hi
    have hlen : len ≤ m := by rw [hmm]; split <;> omega
    have each : ∀ i, i < len → (i = 0 → a = ⟨a.block, a.off, none⟩) ∧ ∃ y : RecV, RecAt w a.block (a.off + i * 5) y ∧ y.1.size ∈ (D i).weights Try.prog 43 ∧ y.2.2.2.2.size ∈ (D i).weights Try.prog 43 := by
      intro i hlt
      obtain ⟨cs', hcs', ht⟩ := hi i (by omega)
      obtain ⟨hs, hcl, hat⟩ := elem_cells (by omega) hcs'
      obtain ⟨ys, n', hn', hy, hlen', hyl, hf⟩ := DataW.trod_struct Try.underlying43 ht
      obtain ⟨c0, c1, c2, c3, c4, rfl⟩ := five _ hcl
      obtain ⟨y0, y1, y2, y3, y4, rfl⟩ := five _ hyl
      have f0 : DataW.trod enc Try.prog w base spare held n' 9 (([c0, c1, c2, c3, c4].drop 0).take (Try.prog.cellsOf 9)) = some y0 := hf 0 _ rfl
      have f1 : DataW.trod enc Try.prog w base spare held n' 3 (([c0, c1, c2, c3, c4].drop 1).take (Try.prog.cellsOf 3)) = some y1 := hf 1 _ rfl
      have f2 : DataW.trod enc Try.prog w base spare held n' 3 (([c0, c1, c2, c3, c4].drop 2).take (Try.prog.cellsOf 3)) = some y2 := hf 2 _ rfl
      have f3 : DataW.trod enc Try.prog w base spare held n' 3 (([c0, c1, c2, c3, c4].drop 3).take (Try.prog.cellsOf 3)) = some y3 := hf 3 _ rfl
      have f4 : DataW.trod enc Try.prog w base spare held n' 9 (([c0, c1, c2, c3, c4].drop 4).take (Try.prog.cellsOf 9)) = some y4 := hf 4 _ rfl
      rw [hci] at f1 f2 f3
      rw [hcs] at f0 f4
      obtain ⟨k0, e0, g0, _⟩ := DataW.trod_string Try.underlying9 f0
      obtain ⟨k1, e1, _, _⟩ := DataW.trod_int Try.underlying3 f1
      obtain ⟨k2, e2, _, _⟩ := DataW.trod_int Try.underlying3 f2
      obtain ⟨k3, e3, _, _⟩ := DataW.trod_int Try.underlying3 f3
      obtain ⟨k4, e4, g4, _⟩ := DataW.trod_string Try.underlying9 f4
      simp only [List.drop_zero, List.drop_succ_cons, List.take_succ_cons, List.take_zero, List.cons.injEq, and_true] at e0 e1 e2 e3 e4
      subst e0 e1 e2 e3 e4
      have hD : D i = .agg ([y0, y1, y2, y3, y4].map (·.1)) := congrArg (·.1) hy
      refine ⟨hs, ⟨k0, k1, k2, k3, k4⟩, ⟨hat 0 (by omega), hat 1 (by omega), hat 2 (by omega), hat 3 (by omega), hat 4 (by omega)⟩, ?_, ?_⟩
      · rw [hD]
        simp only [DataW.weights, Try.underlying43]
        refine DataW.weights_mem_each (j := 0) (t := 9) (d := y0.1) rfl rfl _ ?_
        rw [g0]; simp [DataW.weights]
      · rw [hD]
        simp only [DataW.weights, Try.underlying43]
        refine DataW.weights_mem_each (j := 4) (t := 9) (d := y4.1) rfl rfl _ ?_
        rw [g4]; simp [DataW.weights]
    obtain ⟨f, hf⟩ : ∃ f : Nat → RecV, ∀ i, i < len → RecAt w a.block (a.off + i * 5) (f i) ∧ (f i).1.size ∈ (D i).weights Try.prog 43 ∧ (f i).2.2.2.2.size ∈ (D i).weights Try.prog 43 := by
      refine ⟨fun i => if h : i < len then Classical.choose (each i h).2 else ⟨sb [], 0, 0, 0, sb []⟩, fun i h => ?_⟩
      simp only [h, dif_pos]
      exact Classical.choose_spec (each i h).2
    have hw : ∀ i, i < len → ∀ k ∈ (D i).weights Try.prog 43, k ∈ x.1.weights Try.prog 23 := by
      intro i hlt k hk
      rw [hx]
      simp only [DataW.weights, Try.underlying23]
      exact List.mem_cons_of_mem _ (List.mem_append_left _ (weightsAll_mem (List.mem_map.2 ⟨i, by simpa using hlt, rfl⟩) k hk))
    refine ⟨_, (List.range len).map f, rfl, ⟨some a, cap, by simp, ?_⟩, ?_, .inr ⟨len + (m - len), by simp, ?_⟩⟩
    · intro i hlt
      simp at hlt
      refine ⟨a.block, a.off, by rw [← (each 0 (by omega)).1 rfl], ?_⟩
      simp
      exact (hf i hlt).1
    · intro r hr
      obtain ⟨i, hi', rfl⟩ := List.mem_map.1 hr
      have hlt : i < len := by simpa using hi'
      exact ⟨hw i hlt _ (hf i hlt).2.1, hw i hlt _ (hf i hlt).2.2⟩
    · rw [hx]
      simp only [DataW.weights, Try.underlying23, hcb]
      simp
set_option maxRecDepth 10000 in
theorem open_turns {fuel : Nat} {cs : List Value} {x : DataW H × List MemPlace} (h : DataW.trod enc Try.prog w base spare held fuel 39 cs = some x) : ∃ v l, cs = [v] ∧ IntsAt w v l := by
  have hci : Try.prog.cellsOf 3 = 1 := by kernel_rfl
  rcases Go.Deep.open_slice Try.underlying39 h with ⟨rfl, _⟩ | ⟨a, len, cap, m, n, D, Pl, rfl, hb, hl, hm, hmm, hx, hi⟩
  · exact ⟨_, [], rfl, none, 0, rfl, by intro i h; simp at h⟩
  · rw [hci] at hi
    have hlen : len ≤ m := by rw [hmm]; split <;> omega
    have each : ∀ i, i < len → (i = 0 → a = ⟨a.block, a.off, none⟩) ∧ ∃ y : Int, w.cell? ⟨a.block, a.off + i, none⟩ = some (.int .i64 y) := by
      intro i hlt
      obtain ⟨cs', hcs', ht⟩ := hi i (by omega)
      obtain ⟨hs, hcl, hat⟩ := elem_cells (by omega) hcs'
      obtain ⟨k, e0, _, _⟩ := DataW.trod_int Try.underlying3 ht
      subst e0
      have := hat 0 (by omega)
      simp only [Nat.mul_one, Nat.add_zero, List.getElem?_cons_zero] at this
      exact ⟨hs, k, this⟩
    obtain ⟨f, hf⟩ : ∃ f : Nat → Int, ∀ i, i < len → w.cell? ⟨a.block, a.off + i, none⟩ = some (.int .i64 (f i)) := by
      refine ⟨fun i => if h : i < len then Classical.choose (each i h).2 else 0, fun i h => ?_⟩
      simp only [h, dif_pos]
      exact Classical.choose_spec (each i h).2
    refine ⟨_, (List.range len).map f, rfl, some a, cap, by simp, ?_⟩
    intro i hlt
    simp at hlt
    refine ⟨a.block, a.off, by rw [← (each 0 (by omega)).1 rfl], ?_⟩
    simp only [List.getElem_map, List.getElem_range]
    exact hf i hlt
end
end Go.Proofs.Ytpijbdddegbjbaa
