/- A region that draws, whose last operation waits for all others: the last one is taken off. No condition. -/
import Derived.Test.YtpijbdddegbjbaaMem
import Derived.OrdersHeld
import Derived.Deep.RegionHeld3
namespace Go.Proofs.Ytpijbdddegbjbaa
open Go.RowKit Go.Proofs
/-- Edges and guards lead back; each operation is waited for by a later one. -/
def lastB (md : Region.Mode) (l : List Oper) (o : Oper) : Bool :=
  ((List.range (l.length + 1)).all fun j => match (l ++ [o])[j]? with
    | some x => (x.after.all fun e => !Region.binds md e || decide (e.on < j)) && (match x.guard with | some (g, _) => decide (g < j) | none => true)
    | none => true) &&
  ((List.range l.length).all fun i => (List.range (l.length + 1)).any fun j => match (l ++ [o])[j]? with
    | some x => x.after.toList.any fun e => Region.binds md e && e.on == i
    | none => false)
theorem upon_then {P : Program} {o : Oper} {a : Act} {K N : Act → World → Prop} {Q : Exit → Act → World → Prop} (r : Result Next) : o.upon P a K (Exit.then N Q) r → o.upon P a K Q r := by
  intro h
  cases r with
  | ok n w' =>
    cases n <;> simp only [Oper.upon] at h ⊢ <;> exact h
  | halt x w' => cases x <;> simp only [Oper.upon] at h ⊢ <;> exact h
section
variable {P : Program} {md : Region.Mode} {l : List Oper} {o : Oper} {Q : Exit → Act → World → Prop}
theorem wanted_last {x : Oper} (hg : ∀ g b, x.guard = some (g, b) → g < l.length) (tmps : Array Value) : Region.wanted x (yielded (l ++ [o]).toArray tmps) = Region.wanted x (yielded l.toArray tmps) := by
  unfold Region.wanted
  cases hx : x.guard with
  | none => rfl
  | some p =>
    obtain ⟨g, b⟩ := p
    have := hg g b hx
    have e : yielded (l ++ [o]).toArray tmps g = yielded l.toArray tmps g := by
      unfold yielded
      simp [List.getElem?_append_left this]
    simp only [e]
theorem wpOp_last {i : Nat} (hi : i < l.length) (hg : ∀ x, l[i]? = some x → ∀ g b, x.guard = some (g, b) → g < l.length) {K N : Act → World → Prop} {a : Act} {w : World}
    (h : wpOp P l.toArray (Exit.then N Q) i K a w) : wpOp P (l ++ [o]).toArray Q i K a w := by
  unfold wpOp at *
  have e1 : l.toArray[i]? = some l[i] := by simp [hi]
  have e2 : (l ++ [o]).toArray[i]? = some l[i] := by simp [List.getElem?_append_left hi, hi]
  rw [e1] at h
  rw [e2]
  simp only at h ⊢
  rw [wanted_last (hg l[i] (by simp [hi]))]
  split
  · rename_i hw
    rw [if_pos hw] at h
    rcases h with h | ⟨h1, h2⟩
    · exact .inl (upon_then _ h)
    · exact .inr ⟨h1, h2⟩
  · rename_i hw
    rw [if_neg hw] at h
    exact h
theorem last_back (hB : lastB md l o = true) {j : Nat} {x : Oper} (hx : (l ++ [o])[j]? = some x) : (∀ e ∈ x.after, Region.binds md e = true → e.on < j) ∧ (∀ g b, x.guard = some (g, b) → g < j) := by
  unfold lastB at hB
  rw [Bool.and_eq_true, List.all_eq_true] at hB
  have hj : j < l.length + 1 := by have := (List.getElem?_eq_some_iff.1 hx).1; simpa using this
  have := hB.1 j (List.mem_range.2 hj)
  rw [hx] at this
  simp only [Bool.and_eq_true, Array.all_eq_true_iff_forall_mem, Bool.or_eq_true, Bool.not_eq_true', decide_eq_true_eq] at this
  refine ⟨fun e he hb => (this.1 e he).resolve_left (by simp [hb]), fun g b hg => ?_⟩
  have h2 := this.2
  rw [hg] at h2
  simpa using h2
theorem last_cover (hB : lastB md l o = true) {i : Nat} (hi : i < l.length) : ∃ (j : Nat) (x : Oper) (e : _), (l ++ [o])[j]? = some x ∧ e ∈ x.after ∧ Region.binds md e = true ∧ e.on = i := by
  unfold lastB at hB
  rw [Bool.and_eq_true] at hB
  have := List.all_eq_true.1 hB.2 i (List.mem_range.2 hi)
  obtain ⟨j, _, hj⟩ := List.any_eq_true.1 this
  cases hx : (l ++ [o])[j]? with
  | none => rw [hx] at hj; simp at hj
  | some x =>
    rw [hx] at hj
    obtain ⟨e, he, h1⟩ := List.any_eq_true.1 hj
    simp only [Bool.and_eq_true, beq_iff_eq] at h1
    exact ⟨j, x, e, hx, by simpa using he, h1.1, h1.2⟩
/-- What has come up has come up behind what it waits for. -/
def ShutB (md : Region.Mode) (l : List Oper) (listed : Array Bool) : Prop := ∀ (j : Nat) (x : Oper), l[j]? = some x → listed.getD j false = true → ∀ e ∈ x.after, Region.binds md e = true → listed.getD e.on false = true
theorem all_listed (hB : lastB md l o = true) {listed : Array Bool} (hc : ShutB md l listed) (ho : ∀ e ∈ o.after, Region.binds md e = true → listed.getD e.on false = true) : ∀ i, i < l.length → listed.getD i false = true := by
  suffices h : ∀ k i, i < l.length → l.length - i ≤ k → listed.getD i false = true from fun i hi => h _ i hi (Nat.le_refl _)
  intro k
  induction k with
  | zero => intro i hi hk; omega
  | succ k ih =>
    intro i hi hk
    obtain ⟨j, x, e, hx, he, hb, rfl⟩ := last_cover hB hi
    have hlt := (last_back hB hx).1 e he hb
    have hj : j < l.length + 1 := by have := (List.getElem?_eq_some_iff.1 hx).1; simpa using this
    by_cases hjn : j = l.length
    · subst hjn
      simp at hx
      subst hx
      exact ho e he hb
    · have hj' : j < l.length := by omega
      rw [List.getElem?_append_left hj'] at hx
      exact hc j x hx (ih j hj' (by omega)) e he hb
theorem getD_tf {listed : Array Bool} {i : Nat} (h : i < listed.size) (b c : Bool) : listed.getD i b = listed.getD i c := by simp [h]
theorem shut_set (hB : lastB md l o = true) {listed : Array Bool} (hs : listed.size = l.length) (hc : ShutB md l listed) {i : Nat} (hr : i ∈ Region.ready md l.toArray listed) : ShutB md l (listed.setIfInBounds i true) := by
  intro j x hx hj e he hb
  obtain ⟨h0, oi, hoi, hall⟩ := mem_ready.1 hr
  have up : ∀ k, listed.getD k false = true → (listed.setIfInBounds i true).getD k false = true := by
    intro k hk
    by_cases hik : i = k
    · subst hik
      have : i < listed.size := by
        by_cases h : i < listed.size
        · exact h
        · simp [h] at hk
      simp [this]
    · rw [getD_set_ne false hik]; exact hk
  by_cases hij : i = j
  · subst hij
    have e1 : l.toArray[i]? = some x := by simpa using hx
    rw [e1] at hoi
    cases hoi
    exact up _ (hall e he hb)
  · rw [getD_set_ne false hij] at hj
    exact up _ (hc j x hx hj e he hb)
/-- None is left: all have come up. -/
theorem none_left (hB : lastB md l o = true) {listed : Array Bool} (hs : listed.size = l.length) (h : Region.ready md l.toArray listed = []) : ∀ i, i < l.length → listed.getD i false = true := by
  intro i
  induction i using Nat.strongRecOn with
  | ind i ih =>
    intro hi
    by_cases hl : listed.getD i false = true
    · exact hl
    · exfalso
      have : i ∈ Region.ready md l.toArray listed := by
        rw [mem_ready]
        refine ⟨?_, l[i], by simp [hi], fun e he hb => ?_⟩
        · rw [getD_tf (by omega) true false]
          simpa using hl
        · have hlt := (last_back (j := i) (x := l[i]) hB (by rw [List.getElem?_append_left hi]; simp [hi])).1 e he hb
          exact ih e.on hlt (by omega)
      rw [h] at this
      simp at this
theorem wpAny_last (hB : lastB md l o = true) : ∀ (fuel : Nat) (listed listed' : Array Bool) (a : Act) (w : World), listed.size = l.length → listed'.size = l.length + 1 →
    (∀ i, i < l.length → listed'.getD i false = listed.getD i false) → listed'.getD l.length true = false → ShutB md l listed →
    wpAny P md l.toArray (Exit.then (fun a w => wpList P (l ++ [o]).toArray Q [o] a w) Q) fuel listed a w → wpAny P md (l ++ [o]).toArray Q (fuel + 1) listed' a w := by
  intro fuel
  -- what is ready beside
  have oat : (l ++ [o]).toArray[l.length]? = some o := by simp
  have hno : (l ++ [o])[l.length]? = some o := by simp
  have lastReady : ∀ {listed listed' : Array Bool}, (∀ i, i < l.length → listed'.getD i false = listed.getD i false) → listed'.getD l.length true = false → (∀ i, i < l.length → listed.getD i false = true) → l.length ∈ Region.ready md (l ++ [o]).toArray listed' := by
    intro listed listed' hsame hlast hall
    rw [mem_ready]
    refine ⟨hlast, o, oat, fun e he hb => ?_⟩
    have := (last_back hB hno).1 e he hb
    rw [hsame _ this]
    exact hall _ this
  have old : ∀ {listed listed' : Array Bool}, listed.size = l.length → listed'.size = l.length + 1 → (∀ i, i < l.length → listed'.getD i false = listed.getD i false) → ∀ i, i < l.length → (i ∈ Region.ready md (l ++ [o]).toArray listed' ↔ i ∈ Region.ready md l.toArray listed) := by
    intro listed listed' hs hs' hsame i hi
    rw [mem_ready, mem_ready]
    have e2 : (l ++ [o]).toArray[i]? = some l[i] := by simp [List.getElem?_append_left hi, hi]
    have e1 : l.toArray[i]? = some l[i] := by simp [hi]
    have hx : (l ++ [o])[i]? = some l[i] := by rw [List.getElem?_append_left hi]; simp [hi]
    rw [e1, e2, getD_tf (by omega : i < listed'.size) true false, getD_tf (by omega : i < listed.size) true false, hsame i hi]
    constructor
    · rintro ⟨h1, x, hxx, h2⟩
      cases hxx
      refine ⟨h1, _, rfl, fun e he hb => ?_⟩
      have := (last_back hB hx).1 e he hb
      rw [← hsame _ (by omega)]
      exact h2 e he hb
    · rintro ⟨h1, x, hxx, h2⟩
      cases hxx
      refine ⟨h1, _, rfl, fun e he hb => ?_⟩
      have := (last_back hB hx).1 e he hb
      rw [hsame _ (by omega)]
      exact h2 e he hb
  -- the last one
  have doLast : ∀ {listed' : Array Bool} {a : Act} {w : World} (n : Nat), listed'.size = l.length + 1 → (∀ i, i < l.length → listed'.getD i false = true) → wpList P (l ++ [o]).toArray Q [o] a w → wpOp P (l ++ [o]).toArray Q l.length (wpAny P md (l ++ [o]).toArray Q n (listed'.setIfInBounds l.length true)) a w := by
    intro listed' a w n hs' hall h
    have hnone : Region.ready md (l ++ [o]).toArray (listed'.setIfInBounds l.length true) = [] := by
      rw [List.eq_nil_iff_forall_not_mem]
      intro i hi
      obtain ⟨h0, x, hx, _⟩ := mem_ready.1 hi
      have hlt : i < l.length + 1 := by have := (Array.getElem?_eq_some_iff.1 hx).1; simpa using this
      by_cases hil : i = l.length
      · subst hil
        simp [hs'] at h0
      · rw [getD_set_ne true (fun e => hil e.symm), getD_tf (by omega) true false, hall i (by omega)] at h0
        cases h0
    have done : ∀ a w, Q .normal a w → wpAny P md (l ++ [o]).toArray Q n (listed'.setIfInBounds l.length true) a w := by
      intro a w hq
      cases n with
      | zero => exact ⟨hnone, hq⟩
      | succ n => exact ⟨fun _ => hq, by rw [hnone]; simp⟩
    unfold wpOp
    rw [oat]
    unfold wpList at h
    simp only
    split
    · rename_i hw
      rw [if_pos hw] at h
      rcases h with h | h
      · exact .inl (Oper.wp_mono (fun a w h => done a w h) h)
      · exact .inr h
    · rename_i hw
      rw [if_neg hw] at h
      exact done _ _ h
  induction fuel with
  | zero =>
    intro listed listed' a w hs hs' hsame hlast hshut h
    obtain ⟨hn, hq⟩ := h
    have hall := none_left hB hs hn
    have hall' : ∀ i, i < l.length → listed'.getD i false = true := fun i hi => by rw [hsame i hi]; exact hall i hi
    have hlr := lastReady hsame hlast hall
    refine ⟨fun h0 => (by rw [h0] at hlr; simp at hlr), fun i hi => ?_⟩
    have hlt : i < l.length + 1 := by
      obtain ⟨_, x, hx, _⟩ := mem_ready.1 hi
      have := (Array.getElem?_eq_some_iff.1 hx).1; simpa using this
    by_cases hil : i = l.length
    · subst hil
      exact doLast 0 hs' hall' hq
    · have := (old hs hs' hsame i (by omega)).1 hi
      rw [hn] at this
      simp at this
  | succ fuel ih =>
    intro listed listed' a w hs hs' hsame hlast hshut h
    obtain ⟨h1, h2⟩ := h
    refine ⟨fun h0 => ?_, fun i hi => ?_⟩
    · exfalso
      by_cases hn : Region.ready md l.toArray listed = []
      · have := lastReady hsame hlast (none_left hB hs hn)
        rw [h0] at this
        simp at this
      · obtain ⟨i, hi⟩ := List.exists_mem_of_ne_nil _ hn
        have hlt : i < l.length := by
          obtain ⟨_, x, hx, _⟩ := mem_ready.1 hi
          have := (Array.getElem?_eq_some_iff.1 hx).1; simpa using this
        have := (old hs hs' hsame i hlt).2 hi
        rw [h0] at this
        simp at this
    · have hlt : i < l.length + 1 := by
        obtain ⟨_, x, hx, _⟩ := mem_ready.1 hi
        have := (Array.getElem?_eq_some_iff.1 hx).1; simpa using this
      by_cases hil : i = l.length
      · subst hil
        obtain ⟨_, x, hx, hdep⟩ := mem_ready.1 hi
        rw [oat] at hx
        cases hx
        have hall := all_listed hB hshut (fun e he hb => by
          have := (last_back hB hno).1 e he hb
          rw [← hsame _ this]
          exact hdep e he hb)
        have hn : Region.ready md l.toArray listed = [] := by
          rw [List.eq_nil_iff_forall_not_mem]
          intro i hi
          obtain ⟨h0, x, hx, _⟩ := mem_ready.1 hi
          have hlt : i < l.length := by have := (Array.getElem?_eq_some_iff.1 hx).1; simpa using this
          rw [getD_tf (by omega) true false, hall i hlt] at h0
          cases h0
        exact doLast _ hs' (fun i hi => by rw [hsame i hi]; exact hall i hi) (h1 hn)
      · have hil' : i < l.length := by omega
        have hr := (old hs hs' hsame i hil').1 hi
        have hb : ∀ x, l[i]? = some x → ∀ g b, x.guard = some (g, b) → g < l.length := fun x hx g b hg => by
          have := (last_back (j := i) (x := x) hB (by rw [List.getElem?_append_left hil']; exact hx)).2 g b hg
          omega
        refine wpOp_last hil' hb (wpOp_mono (fun a' w' h3 => ?_) (h2 i hr))
        refine ih (listed.setIfInBounds i true) (listed'.setIfInBounds i true) a' w' (by simpa using hs) (by simpa using hs') (fun k hk => ?_) ?_ (shut_set hB hs hshut hr) h3
        · by_cases hik : i = k
          · subst hik; simp [hs, hs', hk]; omega
          · rw [getD_set_ne false hik, getD_set_ne false hik]; exact hsame k hk
        · rw [getD_set_ne true (by omega)]; exact hlast
theorem wp_region_last {id : Nat} {a : Act} {w : World} {S : World → Prop} (hm : P.follows .mixedOrders = true) (hB : lastB .any l o = true) (hS : S w.drew)
    (h : S w.drew → wpAnyH P .any l.toArray (Exit.then (fun a w => wpList P (l ++ [o]).toArray Q [o] a w) Q) S l.length (Array.replicate l.length false) a w.drew) : (Code.region id (l ++ [o]).toArray true).wp P Q a w := by
  refine wp_region_any hm ?_
  have hsz : (l ++ [o]).toArray.size = l.length + 1 := by simp
  rw [hsz]
  refine wpAny_last hB l.length (Array.replicate l.length false) _ a _ (by simp) (by simp) (fun i hi => ?_) (by simp) ?_ (wpAny_of_held _ _ _ _ (h hS))
  · simp [hi, Nat.lt_succ_of_lt hi]
  · intro j x hx hj
    simp only [Array.getD_eq_getD_getElem?, Array.getElem?_replicate] at hj
    split at hj <;> simp at hj
theorem wp_region_last' {id : Nat} {a : Act} {w : World} {S : World → Prop} {l' : List Oper} (n : Nat) (ho : l'.take n ++ [o] = l') (hn : (l'.take n).length = n) (hm : P.follows .mixedOrders = true) (hB : lastB .any (l'.take n) o = true) (hS : S w.drew)
    (h : S w.drew → wpAnyH P .any (l'.take n).toArray (Exit.then (fun a w => wpList P l'.toArray Q [o] a w) Q) S n (Array.replicate n false) a w.drew) : (Code.region id l'.toArray true).wp P Q a w := by
  have := wp_region_last (id := id) (Q := Q) (a := a) (w := w) (S := S) hm hB hS (by rw [ho, hn]; exact h)
  rw [ho] at this
  exact this
/-- The beginning of a walk by hand, the number of operations a letter. -/
theorem wp_region_heldN {id : Nat} {a : Act} {w : World} {S : World → Prop} {l : List Oper} (n : Nat) (hn : l.length = n) (hm : P.follows .mixedOrders = true) (hS : S w.drew)
    (h : S w.drew → wpAnyH P .any l.toArray Q S n (Array.replicate n false) a w.drew) : (Code.region id l.toArray true).wp P Q a w := by
  subst hn
  exact wp_region_held_drew hm hS (by simpa using h)
end
end Go.Proofs.Ytpijbdddegbjbaa
