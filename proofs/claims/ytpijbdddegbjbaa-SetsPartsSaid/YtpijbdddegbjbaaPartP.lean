/- Plain laws: each record is in just one set; a set's records, grouped, are it. No condition. -/
import Derived.Test.YtpijbdddegbjbaaTurnP
namespace Go.Proofs.Ytpijbdddegbjbaa
open Go.RowKit Go.Proofs
/-- A set's records. -/
def recsOf (s : SetV) : List RecV := s.2.2.2.2.map fun d => (s.1, s.2.1, s.2.2.1, s.2.2.2.1, d)
theorem recsOf_take (s : SetV) (d0 : ByteArray) (rest : List ByteArray) (h : s.2.2.2.2 = d0 :: rest) (hn : s.2.2.2.2.Nodup) : ∀ k, k ≤ rest.length → groupM ((recsOf s).take (k + 1)) = [(s.1, s.2.1, s.2.2.1, s.2.2.2.1, d0 :: rest.take k)] := by
  obtain ⟨n, ty, c, ttl, data⟩ := s
  simp only at h hn
  subst h
  intro k
  induction k with
  | zero => intro _; simp [recsOf, groupM, groupStep, placeOf, newSet]
  | succ k ih =>
    intro hk
    have hlt : k + 1 < (recsOf (n, ty, c, ttl, d0 :: rest)).length := by simp [recsOf]; omega
    rw [groupM_snoc _ (k + 1) hlt, ih (by omega)]
    have hg : (recsOf (n, ty, c, ttl, d0 :: rest))[k + 1] = (n, ty, c, ttl, rest[k]) := by simp [recsOf]
    rw [hg]
    have hp : placeOf [(n, ty, c, ttl, d0 :: rest.take k)] (keyR (n, ty, c, ttl, rest[k])) = some 0 := by simp [placeOf, keyT, keyR]
    rw [step_old hp]
    have hne : Lib.containsS (d0 :: rest.take k) rest[k] = false := by
      rw [Bool.eq_false_iff]
      intro e
      rw [Lib.containsS_iff] at e
      rw [List.nodup_cons] at hn
      rcases List.mem_cons.1 e with e | e
      · exact hn.1 (e ▸ List.getElem_mem (by omega))
      · obtain ⟨j, hj, e⟩ := List.mem_iff_getElem.1 e
        rw [List.getElem_take] at e
        have hj' : j < k := by simp at hj; omega
        have := (List.getElem_inj hn.2).1 e
        omega
    simp only [List.modify_zero_cons, addTo, hne, Bool.false_eq_true, if_false, Int.min_self, List.cons_append]
    rw [List.take_succ_eq_append_getElem (by omega)]
theorem recsOf_group (s : SetV) (hne : s.2.2.2.2 ≠ []) (hn : s.2.2.2.2.Nodup) : groupM (recsOf s) = [s] := by
  cases h : s.2.2.2.2 with
  | nil => exact absurd h hne
  | cons d0 rest =>
    have := recsOf_take s d0 rest h hn rest.length (Nat.le_refl _)
    rw [List.take_of_length_le (by simp [recsOf, h]), List.take_length, ← h] at this
    exact this
/-- The sets in which a record is. -/
def inSet (r : RecV) (s : SetV) : Bool := sameSet (r.1, r.2.1, r.2.2.1, 0, s.2.2.2.2) s && Lib.containsS s.2.2.2.2 r.2.2.2.2 && decide (s.2.2.2.1 ≤ r.2.2.2.1)
theorem inSet_is {l : List RecV} {X : List SetV} (h : Grouped l X) (hf : ∀ r ∈ l, labErr (bl r.1) = 0) {r : RecV} (hr : r ∈ l) {s : SetV} (hs : s ∈ X) : inSet r s = decide (keyT s = keyR r) := by
  obtain ⟨x, hx, ex⟩ := h.named s hs
  have h1 := hf x hx
  rw [ex] at h1
  have h2 := hf r hr
  by_cases hk : keyT s = keyR r
  · have hd : Lib.containsS s.2.2.2.2 r.2.2.2.2 = true := (Lib.containsS_iff _ _).2 ((h.data s hs _).2 ⟨r, hr, hk.symm, rfl⟩)
    have hl := h.low s hs r hr hk.symm
    have hk' := hk
    simp only [keyT, keyR, lowB, Prod.mk.injEq] at hk'
    have e1 : lowerL (bl s.1) = lowerL (bl r.1) := by
      have := congrArg bl hk'.1
      simpa using this
    simp [inSet, sameSet, sameN, h1, h2, e1, hk'.2.1, hk'.2.2, hd, hl, hk]
  · have : sameSet (r.1, r.2.1, r.2.2.1, 0, s.2.2.2.2) s = false := by
      rw [Bool.eq_false_iff]
      intro e
      simp only [sameSet, sameN, Bool.and_eq_true, decide_eq_true_eq, beq_iff_eq] at e
      refine hk ?_
      simp only [keyT, keyR, lowB, Prod.mk.injEq]
      exact ⟨by rw [e.1.1.2.2], e.1.1.1.1.symm, e.1.1.1.2.symm⟩
    simp [inSet, this, hk]
theorem count_zero (k : SKey) : ∀ (X : List SetV), k ∉ X.map keyT → X.countP (fun s => decide (keyT s = k)) = 0
  | [], _ => rfl
  | x :: X, h => by
    simp only [List.map_cons, List.mem_cons, not_or] at h
    rw [List.countP_cons, count_zero k X h.2, if_neg (by simp; exact fun e => h.1 e.symm)]
theorem count_one (k : SKey) : ∀ (X : List SetV), (X.map keyT).Nodup → k ∈ X.map keyT → X.countP (fun s => decide (keyT s = k)) = 1
  | [], _, h => by simp at h
  | x :: X, hn, h => by
    rw [List.map_cons, List.nodup_cons] at hn
    rw [List.countP_cons]
    by_cases e : keyT x = k
    · rw [if_pos (by simp [e]), count_zero k X (e ▸ hn.1)]
    · rw [if_neg (by simp [e])]
      rw [List.map_cons, List.mem_cons] at h
      rw [count_one k X hn.2 (h.resolve_left (fun h => e h.symm))]
theorem inSet_one {l : List RecV} {X : List SetV} (h : Grouped l X) (hf : ∀ r ∈ l, labErr (bl r.1) = 0) {r : RecV} (hr : r ∈ l) : X.countP (inSet r) = 1 := by
  have e : X.countP (inSet r) = X.countP (fun s => decide (keyT s = keyR r)) := by
    apply List.countP_congr
    intro s hs
    rw [inSet_is h hf hr hs]
  rw [e, count_one _ X h.nodup ((h.key _).2 ⟨r, hr, rfl⟩)]
theorem countP_snoc {α : Type} (p : α → Bool) (l : List α) (k : Nat) (h : k < l.length) : (l.take (k + 1)).countP p = (l.take k).countP p + (if p l[k] = true then 1 else 0) := by
  rw [List.take_succ_eq_append_getElem h, List.countP_append]
  simp [List.countP_cons]
theorem countP_le {α : Type} (p : α → Bool) (l : List α) (k : Nat) : (l.take k).countP p ≤ k := by
  have := List.countP_le_length (p := p) (l := l.take k)
  simp at this
  omega
theorem inSet_no {r : RecV} {s : SetV} (h : sameSet (r.1, r.2.1, r.2.2.1, 0, s.2.2.2.2) s = false) : inSet r s = false := by simp [inSet, h]
theorem inSet_yes {l : List RecV} {X : List SetV} (h : Grouped l X) (hf : ∀ r ∈ l, labErr (bl r.1) = 0) {r : RecV} (hr : r ∈ l) {s : SetV} (hs : s ∈ X) (hh : sameSet (r.1, r.2.1, r.2.2.1, 0, s.2.2.2.2) s = true) : Lib.containsS s.2.2.2.2 r.2.2.2.2 = true ∧ s.2.2.2.1 ≤ r.2.2.2.1 ∧ inSet r s = true := by
  have hk : keyT s = keyR r := by
    simp only [sameSet, sameN, Bool.and_eq_true, decide_eq_true_eq, beq_iff_eq] at hh
    simp only [keyT, keyR, lowB, Prod.mk.injEq]
    exact ⟨by rw [hh.1.1.2.2], hh.1.1.1.1.symm, hh.1.1.1.2.symm⟩
  have e := inSet_is h hf hr hs
  rw [decide_eq_true hk] at e
  have e' := e
  simp only [inSet, Bool.and_eq_true, decide_eq_true_eq] at e'
  exact ⟨e'.1.2, e'.2, e⟩
theorem recsOf_len (s : SetV) : (recsOf s).length = s.2.2.2.2.length := by simp [recsOf]
theorem recsOf_mem {s : SetV} {r : RecV} (h : r ∈ recsOf s) : r.1 = s.1 := by
  obtain ⟨d, _, rfl⟩ := List.mem_map.1 h
  rfl
end Go.Proofs.Ytpijbdddegbjbaa
