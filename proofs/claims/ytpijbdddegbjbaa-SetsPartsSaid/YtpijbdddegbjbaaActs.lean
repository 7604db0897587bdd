/- What a slice of acts that came in leads to. No condition. -/
import Derived.Test.YtpijbdddegbjbaaTabP
import Derived.ChangeArms
import Derived.Deep.Slices
namespace Go.Proofs.Ytpijbdddegbjbaa
open Go.RowKit Go.Proofs Go.Sort Go.ChangeShapes Go.WideShapes
structure ActM where
  kind : Int
  client : Int
  now : Int
  is : Bool
/-- The cells of an act. -/
def ActAt (w : World) (b o : Nat) (x : ActM) : Prop :=
  w.cell? ⟨b, o, none⟩ = some (.int .i64 x.kind) ∧ w.cell? ⟨b, o + 1, none⟩ = some (.int .i64 x.client) ∧ w.cell? ⟨b, o + 2, none⟩ = some (.int .i64 x.now) ∧ w.cell? ⟨b, o + 3, none⟩ = some (.bool x.is) ∧
  (Lit.int .i64 x.kind).wf = true ∧ (Lit.int .i64 x.client).wf = true ∧ (Lit.int .i64 x.now).wf = true
def ActsAt (w : World) (v : Value) (l : List ActM) : Prop :=
  ∃ ao cap, v = .slice ao l.length cap ∧ ∀ i (h : i < l.length), ∃ b o, ao = some ⟨b, o, none⟩ ∧ ActAt w b (o + i * 4) l[i]
theorem four {α : Type} (l : List α) (h : l.length = 4) : ∃ a b c d, l = [a, b, c, d] := by
  match l, h with
  | [a, b, c, d], _ => exact ⟨a, b, c, d, rfl⟩
theorem cell_some_spot {w : World} {a : Addr} {v : Value} (h : w.cell? a = some v) : a = ⟨a.block, a.off, none⟩ := by
  cases a with
  | mk b o s =>
    cases s with
    | none => rfl
    | some s =>
      simp only [World.cell?] at h
      split at h <;> simp at h
section
variable {H : Type} {enc : TypeId × Value → H} {w : World} {base : Nat} {spare : Nat → Bool} {held : Bool}
theorem add_none (b o n : Nat) : (Addr.mk b o none).add n = ⟨b, o + n, none⟩ := by
  unfold Addr.add
  split
  · subst_vars; rfl
  · rfl
/-- The cells of one element of a slice. -/
theorem elem_cells {w : World} {base k i : Nat} {a : Addr} {cs : List Value} (hk : 0 < k) (h : w.cells? base (a.add (i * k)) k = some cs) : (i = 0 → a = ⟨a.block, a.off, none⟩) ∧ cs.length = k ∧ ∀ j, j < k → w.cell? ⟨a.block, a.off + i * k + j, none⟩ = cs[j]? := by
  obtain ⟨_, h2, h3⟩ := World.cells?_some h
  have hs : i = 0 → a = ⟨a.block, a.off, none⟩ := by
    rintro rfl
    have := h3 0 hk
    simp only [Nat.zero_mul] at this
    have e : cs[0]? = some (cs[0]'(by omega)) := List.getElem?_eq_getElem (by omega)
    rw [e] at this
    have e2 : (a.add 0).add 0 = a := by simp [Addr.add]
    rw [e2] at this
    exact cell_some_spot this
  refine ⟨hs, h2, fun j hj => ?_⟩
  rw [← h3 j hj]
  by_cases h0 : i = 0
  · have e := hs h0
    rw [e, h0]
    rw [add_none, add_none]
  · have : a.add (i * k) = ⟨a.block, a.off + i * k, none⟩ := by
      unfold Addr.add
      rw [if_neg (by intro e; rcases Nat.mul_eq_zero.1 e with e | e <;> omega)]
    rw [this, add_none]
set_option maxRecDepth 10000 in
theorem open_acts {fuel : Nat} {cs : List Value} {x : DataW H × List MemPlace} (h : DataW.trod enc Try.prog w base spare held fuel 65 cs = some x) : ∃ v l, cs = [v] ∧ ActsAt w v l := by
  have hc : Try.prog.cellsOf 70 = 4 := by kernel_rfl
  have hci : Try.prog.cellsOf 3 = 1 := by kernel_rfl
  have hcb : Try.prog.cellsOf 4 = 1 := by kernel_rfl
  rcases Go.Deep.open_slice Try.underlying65 h with ⟨rfl, _⟩ | ⟨a, len, cap, m, n, D, Pl, rfl, hb, hl, hm, hmm, _, hi⟩
  · exact ⟨_, [], rfl, none, 0, rfl, by intro i h; simp at h⟩
  · rw [hc] at hi
    have hlen : len ≤ m := by rw [hmm]; split <;> omega
    have each : ∀ i, i < len → (i = 0 → a = ⟨a.block, a.off, none⟩) ∧ ∃ y : ActM, ActAt w a.block (a.off + i * 4) y := by
      intro i hlt
      obtain ⟨cs', hcs, ht⟩ := hi i (by omega)
      obtain ⟨hs, hcl, hat⟩ := elem_cells (by omega) hcs
      obtain ⟨ys, n', hn', hy, hlen', hyl, hf⟩ := DataW.trod_struct Try.underlying70 ht
      obtain ⟨c0, c1, c2, c3, rfl⟩ := four _ hcl
      obtain ⟨y0, y1, y2, y3, rfl⟩ := four _ hyl
      have f0 : DataW.trod enc Try.prog w base spare held n' 3 (([c0, c1, c2, c3].drop 0).take (Try.prog.cellsOf 3)) = some y0 := hf 0 _ rfl
      have f1 : DataW.trod enc Try.prog w base spare held n' 3 (([c0, c1, c2, c3].drop 1).take (Try.prog.cellsOf 3)) = some y1 := hf 1 _ rfl
      have f2 : DataW.trod enc Try.prog w base spare held n' 3 (([c0, c1, c2, c3].drop 2).take (Try.prog.cellsOf 3)) = some y2 := hf 2 _ rfl
      have f3 : DataW.trod enc Try.prog w base spare held n' 4 (([c0, c1, c2, c3].drop 3).take (Try.prog.cellsOf 4)) = some y3 := hf 3 _ rfl
      rw [hci] at f0 f1 f2
      rw [hcb] at f3
      obtain ⟨k, e0, _, w0⟩ := DataW.trod_int Try.underlying3 f0
      obtain ⟨c, e1, _, w1⟩ := DataW.trod_int Try.underlying3 f1
      obtain ⟨t, e2, _, w2⟩ := DataW.trod_int Try.underlying3 f2
      obtain ⟨b, e3, _⟩ := DataW.trod_bool Try.underlying4 f3
      simp only [List.drop_zero, List.drop_succ_cons, List.take_succ_cons, List.take_zero, List.cons.injEq, and_true] at e0 e1 e2 e3
      subst e0 e1 e2 e3
      exact ⟨hs, ⟨k, c, t, b⟩, hat 0 (by omega), hat 1 (by omega), hat 2 (by omega), hat 3 (by omega), w0, w1, w2⟩
    obtain ⟨f, hf⟩ : ∃ f : Nat → ActM, ∀ i, i < len → ActAt w a.block (a.off + i * 4) (f i) := by
      refine ⟨fun i => if h : i < len then Classical.choose (each i h).2 else ⟨0, 0, 0, false⟩, fun i h => ?_⟩
      simp only [h, dif_pos]
      exact Classical.choose_spec (each i h).2
    refine ⟨_, (List.range len).map f, rfl, some a, cap, by simp, ?_⟩
    intro i hlt
    simp at hlt
    refine ⟨a.block, a.off, by rw [← (each 0 (by omega)).1 rfl], ?_⟩
    simp
    exact hf i hlt
end
end Go.Proofs.Ytpijbdddegbjbaa
