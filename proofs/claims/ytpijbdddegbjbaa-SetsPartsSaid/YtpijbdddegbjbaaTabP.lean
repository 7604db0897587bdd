/- Plain laws on the table's model: who goes. No condition. -/
import Derived.Test.YtpijbdddegbjbaaTab4
namespace Go.Proofs.Ytpijbdddegbjbaa
open Go.RowKit Go.Proofs Go.Sort
/-- x goes ahead of y. -/
def Ahead (l : Tab) (x y : Int) : Prop := (clOf l x).1 < (clOf l y).1 ∨ ((clOf l x).1 = (clOf l y).1 ∧ x < y)
theorem cmp_lt (l : Tab) (x y : Int) : cmpCl l x y < 0 ↔ Ahead l x y := by
  unfold cmpCl orI Lib.compareInt Ahead
  repeat' split
  all_goals omega
theorem minF_spec (l : Tab) : ∀ (xs : List Int) (x : Int), minF (cmpCl l) x xs ∈ x :: xs ∧ ∀ y ∈ x :: xs, ¬ Ahead l y (minF (cmpCl l) x xs)
  | [], x => ⟨by simp [minF], by intro y hy; simp at hy; subst hy; simp [minF, Ahead]⟩
  | z :: xs, x => by
    have e : minF (cmpCl l) x (z :: xs) = minF (cmpCl l) (if cmpCl l z x < 0 then z else x) xs := rfl
    rw [e]
    by_cases h : cmpCl l z x < 0
    · rw [if_pos h]
      obtain ⟨h1, h2⟩ := minF_spec l xs z
      refine ⟨List.mem_cons_of_mem _ h1, ?_⟩
      intro y hy
      rcases List.mem_cons.1 hy with rfl | hy
      · intro hA
        have := h2 z (List.mem_cons_self)
        rw [cmp_lt] at h
        apply this
        unfold Ahead at *
        omega
      · exact h2 y hy
    · rw [if_neg h]
      obtain ⟨h1, h2⟩ := minF_spec l xs x
      refine ⟨?_, ?_⟩
      · rcases List.mem_cons.1 h1 with h1 | h1
        · rw [h1]; exact List.mem_cons_self
        · exact List.mem_cons_of_mem _ (List.mem_cons_of_mem _ h1)
      · intro y hy
        rcases List.mem_cons.1 hy with rfl | hy
        · exact h2 _ List.mem_cons_self
        · rcases List.mem_cons.1 hy with rfl | hy
          · intro hA
            have := h2 x List.mem_cons_self
            rw [cmp_lt] at h
            apply this
            unfold Ahead at *
            omega
          · exact h2 y (List.mem_cons_of_mem _ hy)
theorem mem_goesL (l : Tab) (x : Int) : x ∈ goesL l ↔ x ∈ l.map (·.1) ∧ (clOf l x).2 = true := by
  unfold goesL sortedKeys
  rw [List.mem_filter, List.mem_mergeSort]
theorem goesF_none (l : Tab) : goesF l = none ↔ ∀ x ∈ l.map (·.1), (clOf l x).2 = false := by
  have : goesF l = none ↔ goesL l = [] := by
    unfold goesF
    split <;> simp_all
  rw [this, List.eq_nil_iff_forall_not_mem]
  constructor
  · intro h x hx
    have := h x
    rw [mem_goesL] at this
    cases hh : (clOf l x).2
    · rfl
    · exact absurd ⟨hx, hh⟩ this
  · intro h x hx
    rw [mem_goesL] at hx
    rw [h x hx.1] at hx
    exact absurd hx.2 (by simp)
theorem goesF_some (l : Tab) (o : Int) : goesF l = some o ↔ (o ∈ l.map (·.1) ∧ (clOf l o).2 = true ∧ ∀ y ∈ l.map (·.1), (clOf l y).2 = true → ¬ Ahead l y o) := by
  have key : ∀ o', goesF l = some o' → (o' ∈ l.map (·.1) ∧ (clOf l o').2 = true ∧ ∀ y ∈ l.map (·.1), (clOf l y).2 = true → ¬ Ahead l y o') := by
    intro o' h
    unfold goesF at h
    split at h
    · simp at h
    · rename_i x xs hL
      obtain ⟨h1, h2⟩ := minF_spec l xs x
      simp only [Option.some.injEq] at h
      rw [h, ← hL] at h1 h2
      have h3 := (mem_goesL l o').1 h1
      exact ⟨h3.1, h3.2, fun y hy hi => h2 y ((mem_goesL l y).2 ⟨hy, hi⟩)⟩
  constructor
  · exact key o
  · rintro ⟨h1, h2, h3⟩
    cases hg : goesF l with
    | none =>
      have := (goesF_none l).1 hg o h1
      rw [h2] at this
      exact absurd this (by simp)
    | some o' =>
      obtain ⟨k1, k2, k3⟩ := key o' hg
      have a := h3 o' k1 k2
      have b := k3 o h1 h2
      have : o' = o := by
        unfold Ahead at a b
        omega
      rw [this]
theorem clOf_of {l : Tab} {k : Int} {c : Int × Bool} (h : mget l k = some c) : clOf l k = c := by simp [clOf, h]
theorem mget_of_mem {V : Type} {l : List (Int × V)} (hn : (l.map (·.1)).Nodup) {k : Int} {c : V} (h : (k, c) ∈ l) : mget l k = some c := by
  induction l with
  | nil => simp at h
  | cons p l ih =>
    simp only [List.map_cons, List.nodup_cons] at hn
    rcases List.mem_cons.1 h with h | h
    · subst h; simp [mget]
    · have : p.1 ≠ k := by
        rintro rfl
        exact hn.1 (List.mem_map_of_mem (f := (·.1)) h)
      have e : mget (p :: l) k = mget l k := by simp [mget, List.find?_cons, this]
      rw [e]
      exact ih hn.2 h
theorem mget_none {V : Type} {l : List (Int × V)} {k : Int} : mget l k = none ↔ k ∉ l.map (·.1) := by
  simp [mget, List.find?_eq_none]
  constructor
  · rintro h x hx; exact h k x hx rfl
  · rintro h a b hab rfl; exact h b hab
end Go.Proofs.Ytpijbdddegbjbaa
