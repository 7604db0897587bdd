/- Sets that a call owns: a row of sets, each with a row of its own for its data. No condition. -/
import Derived.Test.YtpijbdddegbjbaaSetP
import Derived.Maps.AppendAt
import Derived.Deep.AppendLies
namespace Go.Proofs.Ytpijbdddegbjbaa
open Go.RowKit Go.Proofs
section
variable {α : Type} (f : α → List Value) (k : Nat) (hf : ∀ x, (f x).length = k)
include hf
theorem chunk_len (L : List α) : (L.flatMap f).length = L.length * k := by
  induction L with
  | nil => simp
  | cons x L ih => rw [List.flatMap_cons, List.length_append, ih, hf, List.length_cons, Nat.succ_mul, Nat.add_comm]
theorem chunk_get : ∀ (L : List α) (i : Nat) (h : i < L.length) (j : Nat), j < k → (L.flatMap f)[i * k + j]? = (f L[i])[j]?
  | x :: L, 0, _, j, hj => by
    rw [List.flatMap_cons, Nat.zero_mul, Nat.zero_add, List.getElem?_append_left (by rw [hf]; exact hj)]
    rfl
  | x :: L, i + 1, h, j, hj => by
    rw [List.flatMap_cons, List.getElem?_append_right (by rw [hf, Nat.succ_mul]; omega), hf]
    have e : (i + 1) * k + j - k = i * k + j := by rw [Nat.succ_mul]; omega
    rw [e, chunk_get L i (by simpa using h) j hj]
    rfl
theorem chunk_set : ∀ (L : List α) (i : Nat) (h : i < L.length) (j : Nat) (v : Value) (x' : α), j < k → f x' = (f L[i]).set j v → (L.flatMap f).set (i * k + j) v = (L.set i x').flatMap f
  | x :: L, 0, _, j, v, x', hj, e => by
    rw [List.flatMap_cons, Nat.zero_mul, Nat.zero_add, List.set_append_left _ _ (by rw [hf]; exact hj), List.set_cons_zero, List.flatMap_cons, e]
    rfl
  | x :: L, i + 1, h, j, v, x', hj, e => by
    rw [List.flatMap_cons, List.set_append_right _ _ (by rw [hf, Nat.succ_mul]; omega), hf, List.set_cons_succ, List.flatMap_cons]
    have e2 : (i + 1) * k + j - k = i * k + j := by rw [Nat.succ_mul]; omega
    rw [e2, chunk_set L i (by simpa using h) j v x' hj e]
end
/-- A row: its cells, one by one. -/
theorem row_cell {W : World} {base g : Nat} {e : TypeId} {size cap n : Nat} {xs : List Value} (h : W.ownsRow base e size (.slice (some ⟨g, 0, none⟩) n cap) n xs) (j : Nat) (hj : j < n * size) : W.cell? ⟨g, j, none⟩ = xs[j]? ∧ W.frozen? ⟨g, j, none⟩ = false ∧ base ≤ g ∧ g < W.heap.size ∧ n ≤ cap ∧ cap ≤ maxLen := by
  obtain ⟨h1, h2⟩ := h
  rcases h2 with ⟨h2, _⟩ | ⟨g', cap', cur, e', hb, hblk, hc1, hc2, hc3, hc4⟩
  · cases h2
  · simp only [Value.slice.injEq, Option.some.injEq, Addr.mk.injEq, and_true, true_and] at e'
    obtain ⟨rfl, rfl⟩ := e'
    refine ⟨?_, blk_free hblk j (.inr rfl), hb, blk_lt hblk, hc1, hc2⟩
    rw [blk_cell hblk, ← hc4, List.getElem?_take, if_pos hj, Array.getElem?_toList]
theorem row_set {W : World} {base g : Nat} {e : TypeId} {size cap n : Nat} {xs : List Value} (h : W.ownsRow base e size (.slice (some ⟨g, 0, none⟩) n cap) n xs) (j : Nat) (v : Value) : (W.setCell ⟨g, j, none⟩ v).ownsRow base e size (.slice (some ⟨g, 0, none⟩) n cap) n (xs.set j v) := by
  obtain ⟨h1, h2⟩ := h
  refine ⟨by rw [List.length_set]; exact h1, ?_⟩
  rcases h2 with ⟨h2, _⟩ | ⟨g', cap', cur, e', hb, hblk, hc1, hc2, hc3, hc4⟩
  · cases h2
  · simp only [Value.slice.injEq, Option.some.injEq, Addr.mk.injEq, and_true, true_and] at e'
    obtain ⟨rfl, rfl⟩ := e'
    refine .inr ⟨g, cap, _, rfl, hb, blk_set hblk j v, hc1, hc2, by simpa using hc3, ?_⟩
    rw [Array.toList_setIfInBounds, List.take_set, hc4]
theorem row_below {W W' : World} {base B : Nat} {e : TypeId} {size : Nat} {v : Value} {k : Nat} {xs : List Value} (h : W.ownsRow base e size v k xs) (hb : Below B W W') (hB : W.heap.size ≤ B) : W'.ownsRow base e size v k xs := by
  obtain ⟨h1, h2⟩ := h
  refine ⟨h1, ?_⟩
  rcases h2 with h2 | ⟨g, cap, cur, rfl, h2, h3, h4⟩
  · exact .inl h2
  · exact .inr ⟨g, cap, cur, rfl, h2, bel_blk hb (by have := blk_lt h3; omega) h3, h4⟩
/-- The type of a row's block. -/
theorem row_type {W : World} {base : Nat} {e e' : TypeId} {size size' : Nat} {v v' : Value} {k k' : Nat} {xs xs' : List Value} (h : W.ownsRow base e size v k xs) (h' : W.ownsRow base e' size' v' k' xs') (hne : e ≠ e') (b : Nat) (hb : v.ownBlock = some b) : v'.ownBlock ≠ some b := by
  intro hb'
  rcases h.2 with ⟨rfl, _⟩ | ⟨g, cap, cur, rfl, _, h3, _⟩
  · cases hb
  rcases h'.2 with ⟨rfl, _⟩ | ⟨g', cap', cur', rfl, _, h3', _⟩
  · cases hb'
  cases hb; cases hb'
  rw [h3] at h3'
  cases h3'
  exact hne rfl
abbrev SV := SetV × Value
def svCells (p : SV) : List Value := [.string p.1.1, .int .i64 p.1.2.1, .int .i64 p.1.2.2.1, .int .i64 p.1.2.2.2.1, p.2]
theorem sv_len (p : SV) : (svCells p).length = 5 := rfl
def OwnOut (W : World) (base : Nat) (v : Value) (L : List SV) : Prop :=
  W.ownsRow base 46 5 v L.length (L.flatMap svCells) ∧ (∀ p ∈ L, p.1.2.2.2.2 ≠ [] ∧ W.ownsRow base 9 1 p.2 p.1.2.2.2.2.length (p.1.2.2.2.2.map Value.string)) ∧ (L.map fun p => p.2.ownBlock).Nodup
theorem OwnOut.nil (W : World) (base : Nat) : OwnOut W base (.slice none 0 0) [] := ⟨World.ownsRow_nil _ _ _ _, by simp, by simp⟩
theorem OwnOut.below {W W' : World} {base B : Nat} {v : Value} {L : List SV} (h : OwnOut W base v L) (hb : Below B W W') (hB : W.heap.size ≤ B) : OwnOut W' base v L :=
  ⟨row_below h.1 hb hB, fun p hp => ⟨(h.2.1 p hp).1, row_below (h.2.1 p hp).2 hb hB⟩, h.2.2⟩
theorem OwnOut.head {W : World} {base : Nat} {v : Value} {L : List SV} (h : OwnOut W base v L) (hne : L ≠ []) : ∃ g cap, v = .slice (some ⟨g, 0, none⟩) L.length cap := by
  rcases h.1.2 with ⟨_, h0⟩ | ⟨g, cap, _, rfl, _⟩
  · exact absurd (List.length_eq_zero_iff.1 h0) hne
  · exact ⟨g, cap, rfl⟩
theorem OwnOut.at {W : World} {base g cap : Nat} {L : List SV} (h : OwnOut W base (.slice (some ⟨g, 0, none⟩) L.length cap) L) (i : Nat) (hi : i < L.length) : SetAt W g (i * 5) L[i].1 L[i].2 ∧ (∀ j, j < 5 → W.frozen? ⟨g, i * 5 + j, none⟩ = false) ∧ base ≤ g ∧ g < W.heap.size := by
  have c := fun (j : Nat) (hj : j < 5) => row_cell h.1 (i * 5 + j) (by omega)
  have e := fun (j : Nat) (hj : j < 5) => chunk_get svCells 5 sv_len L i hi j hj
  refine ⟨⟨?_, ?_, ?_, ?_, ?_⟩, fun j hj => (c j hj).2.1, (c 0 (by omega)).2.2.1, (c 0 (by omega)).2.2.2.1⟩
  · rw [← Nat.add_zero (i * 5), (c 0 (by omega)).1, e 0 (by omega)]; rfl
  · rw [(c 1 (by omega)).1, e 1 (by omega)]; rfl
  · rw [(c 2 (by omega)).1, e 2 (by omega)]; rfl
  · rw [(c 3 (by omega)).1, e 3 (by omega)]; rfl
  · rw [(c 4 (by omega)).1, e 4 (by omega)]; rfl
/-- A set's TTL is written. -/
theorem OwnOut.ttl {W : World} {base g cap : Nat} {L : List SV} (h : OwnOut W base (.slice (some ⟨g, 0, none⟩) L.length cap) L) (i : Nat) (hi : i < L.length) (t : Int) :
    OwnOut (W.setCell ⟨g, i * 5 + 3, none⟩ (.int .i64 t)) base (.slice (some ⟨g, 0, none⟩) L.length cap) (L.set i ((L[i].1.1, L[i].1.2.1, L[i].1.2.2.1, t, L[i].1.2.2.2.2), L[i].2)) := by
  refine ⟨?_, ?_, ?_⟩
  · rw [List.length_set, ← chunk_set svCells 5 sv_len L i hi 3 (.int .i64 t) _ (by omega) rfl]
    exact row_set h.1 _ _
  · intro p hp
    have key : ∀ q ∈ L, (W.setCell ⟨g, i * 5 + 3, none⟩ (.int .i64 t)).ownsRow base 9 1 q.2 q.1.2.2.2.2.length (q.1.2.2.2.2.map Value.string) := fun q hq => by
      have hr := (h.2.1 q hq).2
      refine hr.kept (row := some g) ⟨rfl, rfl, rfl, by simp [World.setCell], fun k _ hk => Below.heap_setCell _ _ _ k (fun e => hk (by rw [e]))⟩ (.inr ?_)
      exact row_type h.1 hr (by decide) g rfl
    rcases List.mem_or_eq_of_mem_set hp with hp | rfl
    · exact ⟨(h.2.1 p hp).1, key p hp⟩
    · exact ⟨(h.2.1 L[i] (List.getElem_mem hi)).1, key L[i] (List.getElem_mem hi)⟩
  · rw [List.map_set]
    have : (L.map fun p => p.2.ownBlock).set i L[i].2.ownBlock = L.map fun p => p.2.ownBlock := by
      apply List.ext_getElem?
      intro j
      rw [List.getElem?_set]
      split
      · subst_vars; simp [hi]
      · rfl
    rw [this]
    exact h.2.2
theorem nodup_inj {β : Type} {l : List β} (h : l.Nodup) {i j : Nat} (hi : i < l.length) (hj : j < l.length) (e : l[i] = l[j]) : i = j := by
  have := List.pairwise_iff_getElem.1 (List.nodup_iff_pairwise_ne.1 h)
  rcases Nat.lt_trichotomy i j with h1 | h1 | h1
  · exact absurd e (this i j hi hj h1)
  · exact h1
  · exact absurd e.symm (this j i hj hi h1)
theorem nodup_of_inj {β : Type} {l : List β} (h : ∀ (i j : Nat) (hi : i < l.length) (hj : j < l.length), l[i] = l[j] → i = j) : l.Nodup := by
  rw [List.nodup_iff_pairwise_ne, List.pairwise_iff_getElem]
  intro i j hi hj hlt e
  have := h i j hi hj e
  omega
theorem data_block {W : World} {base : Nat} {v : Value} {L : List SV} (h : OwnOut W base v L) {p : SV} (hp : p ∈ L) : ∃ b, p.2.ownBlock = some b ∧ base ≤ b ∧ b < W.heap.size := by
  obtain ⟨h0, hr⟩ := h.2.1 p hp
  rcases hr.2 with ⟨_, hl⟩ | ⟨g, cap, cur, e, h2, h3, _⟩
  · exact absurd (List.length_eq_zero_iff.1 hl) h0
  · exact ⟨g, by rw [e]; rfl, h2, blk_lt h3⟩
theorem data_kept {W W' : World} {base : Nat} {v : Value} {L : List SV} (h : OwnOut W base v L) {p : SV} (hp : p ∈ L) {row : Option Nat} (hg : W.grownBy W' row) (hne : p.2.ownBlock ≠ row) :
    W'.ownsRow base 9 1 p.2 p.1.2.2.2.2.length (p.1.2.2.2.2.map Value.string) := (h.2.1 p hp).2.kept hg (.inr hne)
/-- The main row's block is no data's. -/
theorem main_ne {W : World} {base : Nat} {v : Value} {L : List SV} (h : OwnOut W base v L) {p : SV} (hp : p ∈ L) : p.2.ownBlock ≠ v.ownBlock := by
  obtain ⟨b, hb, _⟩ := data_block h hp
  rw [hb]
  exact fun e => row_type (h.2.1 p hp).2 h.1 (by decide) b hb e.symm
/-- A new set. -/
theorem OwnOut.push {W w1 : World} {base : Nat} {v v' : Value} {L : List SV} (h : OwnOut W base v L) (hb : base ≤ W.heap.size) (o : Obj) (n d : ByteArray) (t c ttl : Int)
    (hg : ((W.alloc (.cells #[.string d] 9)).alloc o).grownBy w1 v.ownBlock) (hown' : w1.ownsRow base 46 5 v' (L.length + 1) (L.flatMap svCells ++ svCells ((n, t, c, ttl, [d]), .slice (some ⟨W.heap.size, 0, none⟩) 1 1))) :
    OwnOut w1 base v' (L ++ [((n, t, c, ttl, [d]), .slice (some ⟨W.heap.size, 0, none⟩) 1 1)]) := by
  have hg0 : W.grownBy w1 v.ownBlock := grown_trans (World.grownBy_alloc W _ _) (grown_trans (World.grownBy_alloc _ _ _) hg)
  have hvb : ∀ b, v.ownBlock = some b → b < W.heap.size := fun b hb' => by
    obtain ⟨_, o', ho', _⟩ := own_lt h.1 b hb'
    exact blk_lt ho'
  refine ⟨?_, ?_, ?_⟩
  · rw [List.flatMap_append, List.length_append]
    simpa using hown'
  · intro p hp
    rcases List.mem_append.1 hp with hp | hp
    · exact ⟨(h.2.1 p hp).1, data_kept h hp hg0 (main_ne h hp)⟩
    · simp at hp
      subst hp
      refine ⟨by simp, by simp, .inr ⟨W.heap.size, 1, #[.string d], rfl, hb, ?_, by simp, by unfold maxLen; omega, by simp, by simp⟩⟩
      have e1 : ((W.alloc (.cells #[.string d] 9)).alloc o).heap[W.heap.size]? = some (.cells #[.string d] 9 (0, 0)) := (Below.heap_alloc _ _ _ (by simp)).trans (blk_new W (.cells #[.string d] 9))
      exact (hg.block _ (by simp; omega) (fun e => by have := hvb _ e.symm; omega)).trans e1
  · rw [List.map_append, List.nodup_append]
    refine ⟨h.2.2, by simp, ?_⟩
    intro x hx y hy
    simp only [List.map_cons, List.map_nil, List.mem_singleton] at hy
    subst hy
    obtain ⟨p, hp, rfl⟩ := List.mem_map.1 hx
    obtain ⟨b, hb', _, hlt⟩ := data_block h hp
    rw [hb']
    intro e
    simp [Value.ownBlock] at e
    omega
/-- A text more in a set. -/
theorem OwnOut.text {W w1 : World} {base g cap : Nat} {L : List SV} (h : OwnOut W base (.slice (some ⟨g, 0, none⟩) L.length cap) L) (i : Nat) (hi : i < L.length) (tmp : Obj) (x : ByteArray) (dv' : Value)
    (hg : (W.alloc tmp).grownBy w1 L[i].2.ownBlock) (hown' : w1.ownsRow base 9 1 dv' (L[i].1.2.2.2.2.length + 1) ((L[i].1.2.2.2.2 ++ [x]).map Value.string))
    (hat : dv'.ownBlock = L[i].2.ownBlock ∨ ∃ b, dv'.ownBlock = some b ∧ W.heap.size ≤ b) :
    OwnOut (w1.setCell ⟨g, i * 5 + 4, none⟩ dv') base (.slice (some ⟨g, 0, none⟩) L.length cap) (L.set i ((L[i].1.1, L[i].1.2.1, L[i].1.2.2.1, L[i].1.2.2.2.1, L[i].1.2.2.2.2 ++ [x]), dv')) := by
  have hg0 : W.grownBy w1 L[i].2.ownBlock := grown_trans (World.grownBy_alloc W _ _) hg
  have hmem := List.getElem_mem hi
  have hm1 : w1.ownsRow base 46 5 (.slice (some ⟨g, 0, none⟩) L.length cap) L.length (L.flatMap svCells) := h.1.kept hg0 (.inr (Ne.symm (main_ne h hmem)))
  have hset : w1.grownBy (w1.setCell ⟨g, i * 5 + 4, none⟩ dv') (some g) := ⟨rfl, rfl, rfl, by simp [World.setCell], fun k _ hk => Below.heap_setCell _ _ _ k (fun e => hk (by rw [e]))⟩
  refine ⟨?_, ?_, ?_⟩
  · rw [List.length_set, ← chunk_set svCells 5 sv_len L i hi 4 dv' _ (by omega) rfl]
    exact row_set hm1 _ _
  · intro p hp
    obtain ⟨j, hj, rfl⟩ := List.mem_iff_getElem.1 hp
    rw [List.length_set] at hj
    rw [List.getElem_set]
    split
    · refine ⟨by simp, ?_⟩
      have := hown'.kept hset (.inr (row_type hm1 hown' (by decide) g rfl))
      simpa using this
    · rename_i hij
      have hq := List.getElem_mem hj
      have hne : L[j].2.ownBlock ≠ L[i].2.ownBlock := by
        intro e
        have := nodup_inj h.2.2 (i := j) (j := i) (by simpa using hj) (by simpa using hi) (by simpa using e)
        exact hij this.symm
      have h1 := data_kept h hq hg0 hne
      exact ⟨(h.2.1 L[j] hq).1, h1.kept hset (.inr (row_type hm1 h1 (by decide) g rfl))⟩
  · rw [List.map_set]
    rcases hat with hat | ⟨b, hb, hlt⟩
    · rw [hat]
      have : (L.map fun p => p.2.ownBlock).set i L[i].2.ownBlock = L.map fun p => p.2.ownBlock := by
        apply List.ext_getElem?
        intro j
        rw [List.getElem?_set]
        split
        · subst_vars; simp [hi]
        · rfl
      rw [this]
      exact h.2.2
    · rw [hb]
      refine nodup_of_inj ?_
      intro j j' hj hj' e
      rw [List.length_set, List.length_map] at hj hj'
      simp only [List.getElem_set, List.getElem_map] at e
      have old : ∀ (m : Nat) (hm : m < L.length), L[m].2.ownBlock ≠ some b := fun m hm e => by
        obtain ⟨b', hb', _, hlt'⟩ := data_block h (List.getElem_mem hm)
        rw [hb'] at e; cases e; omega
      split at e
      · split at e
        · omega
        · exact absurd e.symm (old _ hj')
      · split at e
        · exact absurd e (old _ hj)
        · exact nodup_inj h.2.2 (by simpa using hj) (by simpa using hj') (by simpa using e)
theorem OwnOut.text' {W w1 : World} {base g cap : Nat} {L : List SV} (h : OwnOut W base (.slice (some ⟨g, 0, none⟩) L.length cap) L) (i : Nat) (hi : i < L.length) (tmp : Obj) (x : ByteArray) (dv' : Value) (p : SV) (hp : L[i] = p)
    (hg : (W.alloc tmp).grownBy w1 p.2.ownBlock) (hown' : w1.ownsRow base 9 1 dv' (p.1.2.2.2.2.length + 1) ((p.1.2.2.2.2 ++ [x]).map Value.string))
    (hat : dv'.ownBlock = p.2.ownBlock ∨ ∃ b, dv'.ownBlock = some b ∧ W.heap.size ≤ b) :
    OwnOut (w1.setCell ⟨g, i * 5 + 4, none⟩ dv') base (.slice (some ⟨g, 0, none⟩) L.length cap) (L.set i ((p.1.1, p.1.2.1, p.1.2.2.1, p.1.2.2.2.1, p.1.2.2.2.2 ++ [x]), dv')) := by
  subst hp
  exact h.text i hi tmp x dv' hg hown' hat
end Go.Proofs.Ytpijbdddegbjbaa
