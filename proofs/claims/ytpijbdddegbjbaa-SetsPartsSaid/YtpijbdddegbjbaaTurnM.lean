/- A row of records that a call owns: cells, the exchange of two. No condition. -/
import Derived.Test.YtpijbdddegbjbaaTurnP
import Derived.Test.YtpijbdddegbjbaaTake
import Derived.Test.YtpijbdddegbjbaaAwk22
import Derived.Test.YtpijbdddegbjbaaInts
namespace Go.Proofs.Ytpijbdddegbjbaa
open Go.RowKit Go.Proofs
theorem recCells_len (r : RecV) : (recCells r).length = 5 := rfl
/-- A row of records that a call owns. -/
def RecRow (W : World) (base g cap : Nat) (M : List RecV) : Prop := W.ownsRow base 43 5 (.slice (some ⟨g, 0, none⟩) M.length cap) M.length (M.flatMap recCells)
theorem RecRow.cell {W : World} {base g cap : Nat} {M : List RecV} (h : RecRow W base g cap M) (p : Nat) (hp : p < M.length) (j : Nat) (hj : j < 5) : W.cell? ⟨g, p * 5 + j, none⟩ = (recCells M[p])[j]? ∧ W.frozen? ⟨g, p * 5 + j, none⟩ = false := by
  obtain ⟨h1, h2, _⟩ := row_cell h (p * 5 + j) (by have : p * 5 + 5 ≤ M.length * 5 := by omega
                                                   omega)
  rw [chunk_get recCells 5 recCells_len M p hp j hj] at h1
  exact ⟨h1, h2⟩
theorem RecRow.at {W : World} {base g cap : Nat} {M : List RecV} (h : RecRow W base g cap M) (p : Nat) (hp : p < M.length) : RecAt W g (p * 5) M[p] :=
  ⟨(h.cell p hp 0 (by omega)).1, (h.cell p hp 1 (by omega)).1, (h.cell p hp 2 (by omega)).1, (h.cell p hp 3 (by omega)).1, (h.cell p hp 4 (by omega)).1⟩
theorem RecRow.free {W : World} {base g cap : Nat} {M : List RecV} (h : RecRow W base g cap M) (p : Nat) (hp : p < M.length) (j : Nat) (hj : j < 5) : W.frozen? ⟨g, p * 5 + j, none⟩ = false := (h.cell p hp j hj).2
theorem RecRow.recs {W : World} {base g cap : Nat} {M : List RecV} (h : RecRow W base g cap M) : RecsAt W (.slice (some ⟨g, 0, none⟩) M.length cap) M :=
  ⟨_, cap, rfl, fun i hi => ⟨g, 0, rfl, by rw [Nat.zero_add]; exact h.at i hi⟩⟩
theorem RecRow.below {W W' : World} {base g cap B : Nat} {M : List RecV} (h : RecRow W base g cap M) (hb : Below B W W') (hB : W.heap.size ≤ B) : RecRow W' base g cap M := row_below h hb hB
theorem RecRow.drew {W : World} {base g cap : Nat} {M : List RecV} (h : RecRow W base g cap M) : RecRow W.drew base g cap M := h
theorem RecRow.drewN {W : World} {base g cap q : Nat} {M : List RecV} (h : RecRow W base g cap M) : RecRow (W.drewN q) base g cap M := h
def setRec (W : World) (g p : Nat) (r : RecV) : World :=
  ((((W.setCell ⟨g, p * 5, none⟩ (.string r.1)).setCell ⟨g, p * 5 + 1, none⟩ (.int .i64 r.2.1)).setCell ⟨g, p * 5 + 2, none⟩ (.int .i64 r.2.2.1)).setCell ⟨g, p * 5 + 3, none⟩ (.int .i64 r.2.2.2.1)).setCell ⟨g, p * 5 + 4, none⟩ (.string r.2.2.2.2)
theorem RecRow.put {W : World} {base g cap : Nat} {M : List RecV} (h : RecRow W base g cap M) (p : Nat) (hp : p < M.length) (r : RecV) : RecRow (setRec W g p r) base g cap (M.set p r) := by
  have h0 := row_set (row_set (row_set (row_set (row_set h (p * 5 + 0) (.string r.1)) (p * 5 + 1) (.int .i64 r.2.1)) (p * 5 + 2) (.int .i64 r.2.2.1)) (p * 5 + 3) (.int .i64 r.2.2.2.1)) (p * 5 + 4) (.string r.2.2.2.2)
  obtain ⟨r0, r1, r2, r3, r4⟩ := r
  generalize hx : M[p] = x at *
  obtain ⟨x0, x1, x2, x3, x4⟩ := x
  have e : ((((((M.flatMap recCells).set (p * 5 + 0) (.string r0)).set (p * 5 + 1) (.int .i64 r1)).set (p * 5 + 2) (.int .i64 r2)).set (p * 5 + 3) (.int .i64 r3)).set (p * 5 + 4) (.string r4)) = (M.set p (r0, r1, r2, r3, r4)).flatMap recCells := by
    rw [chunk_set recCells 5 recCells_len M p hp 0 _ (r0, x1, x2, x3, x4) (by omega) (by rw [hx]; rfl),
      chunk_set recCells 5 recCells_len _ p (by simpa using hp) 1 _ (r0, r1, x2, x3, x4) (by omega) (by simp [recCells]),
      chunk_set recCells 5 recCells_len _ p (by simpa using hp) 2 _ (r0, r1, r2, x3, x4) (by omega) (by simp [recCells]),
      chunk_set recCells 5 recCells_len _ p (by simpa using hp) 3 _ (r0, r1, r2, r3, x4) (by omega) (by simp [recCells]),
      chunk_set recCells 5 recCells_len _ p (by simpa using hp) 4 _ (r0, r1, r2, r3, r4) (by omega) (by simp [recCells])]
    simp only [List.set_set]
  dsimp only at h0
  rw [e] at h0
  unfold RecRow setRec
  rw [List.length_set]
  exact h0
theorem setRec_below {W w0 : World} {B g p : Nat} {r : RecV} (h : Below B w0 W) (hB : B ≤ g) : Below B w0 (setRec W g p r) := by
  unfold setRec
  exact ((((h.setCell (p := ⟨g, p * 5, none⟩) hB _).setCell (p := ⟨g, p * 5 + 1, none⟩) hB _).setCell (p := ⟨g, p * 5 + 2, none⟩) hB _).setCell (p := ⟨g, p * 5 + 3, none⟩) hB _).setCell (p := ⟨g, p * 5 + 4, none⟩) hB _
theorem setRec_size (W : World) (g p : Nat) (r : RecV) : (setRec W g p r).heap.size = W.heap.size := by
  simp [setRec, World.setCell]
/-- A slice of turns. -/
abbrev TurnsAt := @IntsAt
theorem IntsAt.below {w w' : World} {v : Value} {l : List Int} (h : IntsAt w v l) (hb : Below w.heap.size w w') : IntsAt w' v l := by
  obtain ⟨ao, cap, rfl, h⟩ := h
  refine ⟨ao, cap, rfl, fun i hi => ?_⟩
  obtain ⟨b, o, rfl, hc⟩ := h i hi
  exact ⟨b, o, rfl, bel_cell hb (cell_lt hc) hc⟩
theorem SetsAt.len {w : World} {v : Value} {l : List SetV} (h : SetsAt w v l) : ∃ ao cap, v = .slice ao l.length cap := by
  obtain ⟨ao, cap, dv, rfl, _⟩ := h
  exact ⟨ao, cap, rfl⟩
theorem infoRec : (Try.prog.info? 43).map (fun i => (i.zero, i.size, i.bytes)) = some (some (.agg #[.string (sb []), .int .i64 0, .int .i64 0, .int .i64 0, .string (sb [])]), 5, 56) := by kernel_rfl
end Go.Proofs.Ytpijbdddegbjbaa
