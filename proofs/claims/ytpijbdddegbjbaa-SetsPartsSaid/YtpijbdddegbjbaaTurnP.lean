/- Plain laws: what sets.Group tells does not hang on the records' order. No condition. -/
import Derived.Test.YtpijbdddegbjbaaSetP
namespace Go.Proofs.Ytpijbdddegbjbaa
open Go.RowKit Go.Proofs
/-- What a list of sets tells of a list of records, whatever its order. -/
structure Grouped (l : List RecV) (out : List SetV) : Prop where
  nodup : (out.map keyT).Nodup
  key : ∀ k, k ∈ out.map keyT ↔ ∃ r ∈ l, keyR r = k
  low : ∀ s ∈ out, ∀ r ∈ l, keyR r = keyT s → s.2.2.2.1 ≤ r.2.2.2.1
  hit : ∀ s ∈ out, ∃ r ∈ l, keyR r = keyT s ∧ r.2.2.2.1 = s.2.2.2.1
  named : ∀ s ∈ out, ∃ r ∈ l, r.1 = s.1
  dn : ∀ s ∈ out, s.2.2.2.2.Nodup
  data : ∀ s ∈ out, ∀ d, d ∈ s.2.2.2.2 ↔ ∃ r ∈ l, keyR r = keyT s ∧ r.2.2.2.2 = d
theorem placeOf_none {out : List SetV} {k : SKey} (h : placeOf out k = none) : k ∉ out.map keyT := by
  unfold placeOf at h
  rw [List.findIdx?_eq_none_iff] at h
  intro hm
  obtain ⟨s, hs, rfl⟩ := List.mem_map.1 hm
  have := h s hs
  simp at this
theorem map_modify_key (out : List SetV) (i : Nat) (r : RecV) : (out.modify i (addTo r)).map keyT = out.map keyT := by
  apply List.ext_getElem?
  intro j
  rw [List.getElem?_map, List.getElem?_map, List.getElem?_modify]
  cases out[j]? with
  | none => rfl
  | some s =>
    by_cases hij : i = j
    · simp [hij, addTo_key]
    · simp [hij]
theorem mem_modify {out : List SetV} {i : Nat} (hi : i < out.length) {r : RecV} {s : SetV} (h : s ∈ out.modify i (addTo r)) (hn : (out.map keyT).Nodup) : (s = addTo r out[i]) ∨ (s ∈ out ∧ keyT s ≠ keyT out[i]) := by
  obtain ⟨j, hj, rfl⟩ := List.mem_iff_getElem.1 h
  rw [List.length_modify] at hj
  rw [List.getElem_modify]
  by_cases hij : i = j
  · subst hij; left; simp
  · right
    rw [if_neg hij]
    refine ⟨List.getElem_mem hj, fun e => hij ?_⟩
    have h1 : (out.map keyT)[j]'(by simpa using hj) = (out.map keyT)[i]'(by simpa using hi) := by simpa using e
    exact ((List.getElem_inj hn).1 h1).symm
theorem grouped_snoc {l : List RecV} {out : List SetV} (h : Grouped l out) (r : RecV) : Grouped (l ++ [r]) (groupStep out r) := by
  have hex : ∀ {p : RecV → Prop}, (∃ x ∈ l ++ [r], p x) ↔ (∃ x ∈ l, p x) ∨ p r := by
    intro p
    constructor
    · rintro ⟨x, hx, hp⟩
      rcases List.mem_append.1 hx with hx | hx
      · exact .inl ⟨x, hx, hp⟩
      · simp at hx; subst hx; exact .inr hp
    · rintro (⟨x, hx, hp⟩ | hp)
      · exact ⟨x, List.mem_append_left _ hx, hp⟩
      · exact ⟨r, by simp, hp⟩
  cases hp : placeOf out (keyR r) with
  | none =>
    rw [step_new hp]
    have hk := placeOf_none hp
    have hkn : keyT (newSet r) = keyR r := rfl
    have hno : ∀ x ∈ l, keyR x ≠ keyR r := fun x hx e => hk ((h.key _).2 ⟨x, hx, e⟩)
    have hout : ∀ s ∈ out, keyT s ≠ keyR r := fun s hs e => hk (List.mem_map.2 ⟨s, hs, e⟩)
    refine ⟨?_, ?_, ?_, ?_, ?_, ?_, ?_⟩
    · rw [List.map_append, List.nodup_append]
      refine ⟨h.nodup, by simp, ?_⟩
      intro a ha b hb
      simp at hb
      subst hb
      rw [hkn]
      rintro rfl
      exact hk ha
    · intro k
      rw [List.map_append, List.mem_append, h.key, hex]
      simp only [List.map_cons, List.map_nil, List.mem_singleton, hkn]
      constructor
      · rintro (h | h)
        · exact .inl h
        · exact .inr h.symm
      · rintro (h | h)
        · exact .inl h
        · exact .inr h.symm
    · intro s hs0 x hx he
      rcases List.mem_append.1 hs0 with hs | hs
      · rcases List.mem_append.1 hx with hx | hx
        · exact h.low s hs x hx he
        · simp at hx; rw [hx] at he; exact absurd he.symm (hout s hs)
      · simp at hs; subst hs
        rcases List.mem_append.1 hx with hx | hx
        · exact absurd he (hno x hx)
        · simp at hx; subst hx; exact Int.le_refl _
    · intro s hs
      rw [hex]
      rcases List.mem_append.1 hs with hs | hs
      · exact .inl (h.hit s hs)
      · simp at hs; subst hs; exact .inr ⟨rfl, rfl⟩
    · intro s hs
      rw [hex]
      rcases List.mem_append.1 hs with hs | hs
      · exact .inl (h.named s hs)
      · simp at hs; subst hs; exact .inr rfl
    · intro s hs
      rcases List.mem_append.1 hs with hs | hs
      · exact h.dn s hs
      · simp at hs; subst hs; simp [newSet]
    · intro s hs d
      rw [hex]
      rcases List.mem_append.1 hs with hs | hs
      · rw [h.data s hs]
        constructor
        · exact .inl
        · rintro (h' | h')
          · exact h'
          · exact absurd h'.1.symm (hout s hs)
      · simp at hs; subst hs
        constructor
        · intro hd; simp [newSet] at hd; exact .inr ⟨rfl, hd.symm⟩
        · rintro (⟨x, hx, he, _⟩ | h')
          · exact absurd he (hno x hx)
          · simp [newSet, h'.2]
  | some i =>
    rw [step_old hp]
    obtain ⟨hi, hk⟩ := placeOf_some hp
    have hmi := List.getElem_mem hi
    refine ⟨?_, ?_, ?_, ?_, ?_, ?_, ?_⟩
    · rw [map_modify_key]; exact h.nodup
    · intro k
      rw [map_modify_key, h.key, hex]
      constructor
      · exact .inl
      · rintro (h' | rfl)
        · exact h'
        · rw [← hk]; exact (h.key _).1 (List.mem_map.2 ⟨_, hmi, rfl⟩)
    · intro s hs x hx he
      rcases mem_modify hi hs h.nodup with rfl | ⟨hs, hne⟩
      · rcases List.mem_append.1 hx with hx | hx
        · have := h.low _ hmi x hx he
          simp only [addTo]; omega
        · simp at hx; subst hx; simp only [addTo]; omega
      · rcases List.mem_append.1 hx with hx | hx
        · exact h.low s hs x hx he
        · simp at hx; subst hx; exact absurd (he.symm.trans hk.symm) hne
    · intro s hs
      rw [hex]
      rcases mem_modify hi hs h.nodup with rfl | ⟨hs, hne⟩
      · obtain ⟨x, hx, e1, e2⟩ := h.hit _ hmi
        by_cases hle : out[i].2.2.2.1 ≤ r.2.2.2.1
        · exact .inl ⟨x, hx, e1, by rw [e2]; simp only [addTo]; omega⟩
        · exact .inr ⟨hk.symm, by simp only [addTo]; omega⟩
      · exact .inl (h.hit s hs)
    · intro s hs
      rw [hex]
      rcases mem_modify hi hs h.nodup with rfl | ⟨hs, hne⟩
      · exact .inl (by have := h.named _ hmi; simpa only [addTo] using this)
      · exact .inl (h.named s hs)
    · intro s hs
      rcases mem_modify hi hs h.nodup with rfl | ⟨hs, hne⟩
      · simp only [addTo]
        split
        · exact h.dn _ hmi
        · rename_i hc
          rw [Lib.containsS_iff] at hc
          rw [List.nodup_append]
          refine ⟨h.dn _ hmi, by simp, ?_⟩
          intro a ha b hb
          simp at hb
          subst hb
          rintro rfl
          exact hc ha
      · exact h.dn s hs
    · intro s hs d
      rw [hex]
      rcases mem_modify hi hs h.nodup with rfl | ⟨hs, hne⟩
      · have hd := h.data _ hmi d
        have e : (d ∈ (addTo r out[i]).2.2.2.2) ↔ d ∈ out[i].2.2.2.2 ∨ d = r.2.2.2.2 := by
          simp only [addTo]
          split
          · rename_i hc
            rw [Lib.containsS_iff] at hc
            constructor
            · exact .inl
            · rintro (h' | rfl)
              · exact h'
              · exact hc
          · simp
        rw [e, hd, addTo_key]
        constructor
        · rintro (h' | rfl)
          · exact .inl h'
          · exact .inr ⟨hk.symm, rfl⟩
        · rintro (h' | h')
          · exact .inl h'
          · exact .inr h'.2.symm
      · rw [h.data s hs]
        constructor
        · exact .inl
        · rintro (h' | h')
          · exact h'
          · exact absurd (h'.1.symm.trans hk.symm) hne
theorem grouped_take (l : List RecV) (k : Nat) (h : k ≤ l.length) : Grouped (l.take k) (groupM (l.take k)) := by
  induction k with
  | zero => refine ⟨?_, ?_, ?_, ?_, ?_, ?_, ?_⟩ <;> simp [groupM]
  | succ k ih =>
    rw [groupM_snoc l k (by omega), List.take_succ_eq_append_getElem (by omega)]
    exact grouped_snoc (ih (by omega)) _
theorem grouped_ok (l : List RecV) : Grouped l (groupM l) := by
  have := grouped_take l l.length (Nat.le_refl _)
  rwa [List.take_length] at this
theorem grouped_perm {l m : List RecV} {out : List SetV} (h : Grouped l out) (hp : ∀ r, r ∈ l ↔ r ∈ m) : Grouped m out := by
  have hex : ∀ {p : RecV → Prop}, (∃ x ∈ l, p x) ↔ (∃ x ∈ m, p x) := fun {p} => ⟨fun ⟨x, hx, h⟩ => ⟨x, (hp x).1 hx, h⟩, fun ⟨x, hx, h⟩ => ⟨x, (hp x).2 hx, h⟩⟩
  exact ⟨h.nodup, fun k => (h.key k).trans hex, fun s hs r hr => h.low s hs r ((hp r).2 hr), fun s hs => hex.1 (h.hit s hs), fun s hs => hex.1 (h.named s hs), h.dn, fun s hs d => (h.data s hs d).trans hex⟩
theorem perm_nodup {α : Type} [DecidableEq α] {a b : List α} (ha : a.Nodup) (hb : b.Nodup) (h : ∀ x, x ∈ a ↔ x ∈ b) : a.Perm b := (List.perm_ext_iff_of_nodup ha hb).2 fun x => h x
theorem sortB_perm {a b : List ByteArray} (h : a.Perm b) : sortB a = sortB b := by
  unfold sortB
  congr 1
  have tr : ∀ x y z : List UInt8, decide (x ≤ y) = true → decide (y ≤ z) = true → decide (x ≤ z) = true := fun x y z h1 h2 => by
    simp only [decide_eq_true_eq] at *
    exact List.le_trans h1 h2
  have to : ∀ x y : List UInt8, (decide (x ≤ y) || decide (y ≤ x)) = true := fun x y => by
    simp only [Bool.or_eq_true, decide_eq_true_eq]
    exact List.le_total x y
  refine List.Perm.eq_of_pairwise (le := fun x y => decide (x ≤ y) = true) ?_ (List.pairwise_mergeSort tr to _) (List.pairwise_mergeSort tr to _) ((List.mergeSort_perm _ _).trans ((h.map bl).trans (List.mergeSort_perm _ _).symm))
  intro x y _ _ h1 h2
  simp only [decide_eq_true_eq] at h1 h2
  exact List.le_antisymm h1 h2
/-- Each set of one list has a like one in the other. -/
theorem turned_like {l : List RecV} {A B : List SetV} (hA : Grouped l A) (hB : Grouped l B) (hf : ∀ r ∈ l, labErr (bl r.1) = 0) {s : SetV} (hs : s ∈ A) : ∃ t ∈ B, sameSet s t = true ∧ s.2.2.2.1 = t.2.2.2.1 := by
  have hk : keyT s ∈ B.map keyT := (hB.key _).2 ((hA.key _).1 (List.mem_map.2 ⟨s, hs, rfl⟩))
  obtain ⟨t, ht, e⟩ := List.mem_map.1 hk
  refine ⟨t, ht, ?_, ?_⟩
  · have hd : s.2.2.2.2.Perm t.2.2.2.2 := perm_nodup (hA.dn s hs) (hB.dn t ht) (fun d => by rw [hA.data s hs, hB.data t ht, e])
    obtain ⟨x, hx, ex⟩ := hA.named s hs
    obtain ⟨y, hy, ey⟩ := hB.named t ht
    have h1 := hf x hx
    have h2 := hf y hy
    rw [ex] at h1
    rw [ey] at h2
    simp only [keyT, lowB, Prod.mk.injEq] at e
    have e1 : lowerL (bl t.1) = lowerL (bl s.1) := by
      have := congrArg bl e.1
      simpa [bl, sb] using this
    simp [sameSet, sameN, h1, h2, e1, e.2.1, e.2.2, hd.length_eq, sortB_perm hd]
  · obtain ⟨x, hx, k1, t1⟩ := hA.hit s hs
    obtain ⟨y, hy, k2, t2⟩ := hB.hit t ht
    have a1 := hB.low t ht x hx (k1.trans e.symm)
    have a2 := hA.low s hs y hy (k2.trans e)
    omega
theorem turned_len {l : List RecV} {A B : List SetV} (hA : Grouped l A) (hB : Grouped l B) : A.length = B.length := by
  have := (perm_nodup hA.nodup hB.nodup (fun k => by rw [hA.key, hB.key])).length_eq
  simpa using this
theorem leastOf_le (l : List SetV) : ∀ (n : Int), leastOf n l ≤ n ∧ (∀ s ∈ l, leastOf n l ≤ s.2.2.2.1) ∧ (leastOf n l = n ∨ ∃ s ∈ l, leastOf n l = s.2.2.2.1) := by
  unfold leastOf
  induction l with
  | nil => intro n; simp
  | cons x l ih =>
    intro n
    obtain ⟨h1, h2, h3⟩ := ih (min n x.2.2.2.1)
    simp only [List.map_cons, List.foldl_cons]
    refine ⟨by omega, ?_, ?_⟩
    · intro s hs
      rcases List.mem_cons.1 hs with rfl | hs
      · omega
      · exact h2 s hs
    · rcases h3 with h3 | ⟨s, hs, h3⟩
      · rw [h3]
        by_cases hc : n ≤ x.2.2.2.1
        · left; omega
        · right; exact ⟨x, by simp, by omega⟩
      · right; exact ⟨s, by simp [hs], h3⟩
theorem leastS_spec (A : List SetV) (hne : A ≠ []) : (∀ s ∈ A, leastS A ≤ s.2.2.2.1) ∧ ∃ s ∈ A, leastS A = s.2.2.2.1 := by
  cases A with
  | nil => exact absurd rfl hne
  | cons x A =>
    obtain ⟨h1, h2, h3⟩ := leastOf_le (x :: A) x.2.2.2.1
    refine ⟨h2, ?_⟩
    rcases h3 with h3 | h3
    · exact ⟨x, by simp, h3⟩
    · exact h3
theorem turned_least {l : List RecV} {A B : List SetV} (hA : Grouped l A) (hB : Grouped l B) : leastS A = leastS B := by
  have hl := turned_len hA hB
  by_cases hne : A = []
  · subst hne
    have : B = [] := List.length_eq_zero_iff.1 hl.symm
    rw [this]
  · have hnb : B ≠ [] := by rintro rfl; exact hne (List.length_eq_zero_iff.1 hl)
    obtain ⟨a1, s, hs, a2⟩ := leastS_spec A hne
    obtain ⟨b1, t, ht, b2⟩ := leastS_spec B hnb
    have key : ∀ {A B : List SetV}, Grouped l A → Grouped l B → (∀ s ∈ A, leastS A ≤ s.2.2.2.1) → ∀ t ∈ B, leastS A ≤ t.2.2.2.1 := by
      intro A B hA hB a1 t ht
      obtain ⟨y, hy, k2, t2⟩ := hB.hit t ht
      have hk : keyT t ∈ A.map keyT := (hA.key _).2 ⟨y, hy, k2⟩
      obtain ⟨s, hs, e⟩ := List.mem_map.1 hk
      have := hA.low s hs y hy (k2.trans e.symm)
      have := a1 s hs
      omega
    have c1 := key hA hB a1 t ht
    have c2 := key hB hA b1 s hs
    omega
end Go.Proofs.Ytpijbdddegbjbaa
