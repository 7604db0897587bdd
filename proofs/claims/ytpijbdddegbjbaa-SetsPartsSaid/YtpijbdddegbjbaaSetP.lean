/- Plain laws on sets of records: what sets.Group tells. No condition. -/
import Derived.Test.YtpijbdddegbjbaaSets2
namespace Go.Proofs.Ytpijbdddegbjbaa
open Go.RowKit Go.Proofs
/-- A name in lower form. -/
def lowB (s : ByteArray) : ByteArray := sb (lowerL (bl s))
def keyR (r : RecV) : SKey := (lowB r.1, r.2.1, r.2.2.1)
def keyT (s : SetV) : SKey := (lowB s.1, s.2.1, s.2.2.1)
def newSet (r : RecV) : SetV := (r.1, r.2.1, r.2.2.1, r.2.2.2.1, [r.2.2.2.2])
def addTo (r : RecV) (s : SetV) : SetV := (s.1, s.2.1, s.2.2.1, min s.2.2.2.1 r.2.2.2.1, if Lib.containsS s.2.2.2.2 r.2.2.2.2 = true then s.2.2.2.2 else s.2.2.2.2 ++ [r.2.2.2.2])
/-- Where a record belongs. -/
def placeOf (out : List SetV) (k : SKey) : Option Nat := out.findIdx? fun s => decide (keyT s = k)
def groupStep (out : List SetV) (r : RecV) : List SetV := match placeOf out (keyR r) with
  | none => out ++ [newSet r]
  | some i => out.modify i (addTo r)
def groupM (l : List RecV) : List SetV := l.foldl groupStep []
theorem groupM_snoc (l : List RecV) (k : Nat) (h : k < l.length) : groupM (l.take (k + 1)) = groupStep (groupM (l.take k)) l[k] := by
  unfold groupM
  rw [List.take_succ_eq_append_getElem h, List.foldl_append]
  rfl
def idxFrom : Nat → List SetV → List (SKey × Int)
  | _, [] => []
  | n, s :: out => (keyT s, (n : Int)) :: idxFrom (n + 1) out
def idxOf (out : List SetV) : List (SKey × Int) := idxFrom 0 out
theorem idxFrom_append : ∀ (out : List SetV) (n : Nat) (s : SetV), idxFrom n (out ++ [s]) = idxFrom n out ++ [(keyT s, ((n + out.length : Nat) : Int))]
  | [], n, s => by simp [idxFrom]
  | x :: out, n, s => by
    rw [List.cons_append, idxFrom, idxFrom_append out (n + 1) s, idxFrom, List.cons_append]
    simp; omega
theorem idxOf_new (out : List SetV) (s : SetV) : idxOf (out ++ [s]) = idxOf out ++ [(keyT s, (out.length : Int))] := by
  unfold idxOf
  rw [idxFrom_append]
  simp
theorem idxFrom_mod (f : SetV → SetV) (hf : ∀ s, keyT (f s) = keyT s) : ∀ (out : List SetV) (n i : Nat), idxFrom n (out.modify i f) = idxFrom n out
  | [], n, i => by simp
  | x :: out, n, 0 => by simp [idxFrom, hf]
  | x :: out, n, i + 1 => by simp [idxFrom, idxFrom_mod f hf out (n + 1) i]
theorem idxOf_mod (f : SetV → SetV) (hf : ∀ s, keyT (f s) = keyT s) (out : List SetV) (i : Nat) : idxOf (out.modify i f) = idxOf out := idxFrom_mod f hf out 0 i
theorem addTo_key (r : RecV) (s : SetV) : keyT (addTo r s) = keyT s := rfl
theorem mget_idxFrom (k : SKey) : ∀ (out : List SetV) (n : Nat), mget (idxFrom n out) k = Option.map (fun (i : Nat) => ((n + i : Nat) : Int)) (placeOf out k)
  | [], n => by simp [idxFrom, mget, placeOf]
  | x :: out, n => by
    unfold placeOf
    rw [idxFrom, List.findIdx?_cons]
    by_cases h : keyT x = k
    · simp [mget, h]
    · have := mget_idxFrom k out (n + 1)
      unfold placeOf at this
      have e : mget ((keyT x, (n : Int)) :: idxFrom (n + 1) out) k = mget (idxFrom (n + 1) out) k := by simp [mget, List.find?_cons, h]
      rw [e, this]
      simp only [h, decide_false, Bool.false_eq_true, if_false, Option.map_map]
      cases List.findIdx? (fun s => decide (keyT s = k)) out with
      | none => rfl
      | some j => simp; omega
theorem mget_idx (out : List SetV) (k : SKey) : mget (idxOf out) k = Option.map (fun (i : Nat) => (i : Int)) (placeOf out k) := by
  unfold idxOf
  rw [mget_idxFrom]
  simp only [Nat.zero_add]
theorem placeOf_some {out : List SetV} {k : SKey} {i : Nat} (h : placeOf out k = some i) : ∃ hi : i < out.length, keyT out[i] = k := by
  obtain ⟨hlt, hk, _⟩ := List.findIdx?_eq_some_iff_getElem.1 h
  exact ⟨hlt, by simpa using hk⟩
theorem step_new {out : List SetV} {r : RecV} (h : placeOf out (keyR r) = none) : groupStep out r = out ++ [newSet r] := by unfold groupStep; rw [h]
theorem step_old {out : List SetV} {r : RecV} {i : Nat} (h : placeOf out (keyR r) = some i) : groupStep out r = out.modify i (addTo r) := by unfold groupStep; rw [h]
theorem step_len (out : List SetV) (r : RecV) : (groupStep out r).length ≤ out.length + 1 := by
  unfold groupStep
  split <;> simp
theorem group_len (l : List RecV) (k : Nat) (h : k ≤ l.length) : (groupM (l.take k)).length ≤ k := by
  induction k with
  | zero => simp [groupM]
  | succ k ih =>
    rw [groupM_snoc l k (by omega)]
    have := step_len (groupM (l.take k)) l[k]
    have := ih (by omega)
    omega
theorem group_data_len (l : List RecV) (k : Nat) (h : k ≤ l.length) : ∀ s ∈ groupM (l.take k), s.2.2.2.2.length ≤ k := by
  induction k with
  | zero => intro s hs; simp [groupM] at hs
  | succ k ih =>
    rw [groupM_snoc l k (by omega)]
    intro s hs
    have ih := ih (by omega)
    unfold groupStep at hs
    split at hs
    · rcases List.mem_append.1 hs with hs | hs
      · have := ih s hs; omega
      · simp at hs; subst hs; simp [newSet]
    · obtain ⟨j, hj, rfl⟩ := List.mem_iff_getElem.1 hs
      rw [List.length_modify] at hj
      rw [List.getElem_modify]
      have := ih _ (List.getElem_mem hj)
      split
      · simp only [addTo]
        split
        · omega
        · simp; omega
      · omega
theorem modify_set {α : Type} (l : List α) (i : Nat) (h : i < l.length) (f : α → α) : l.modify i f = l.set i (f l[i]) := by
  apply List.ext_getElem?
  intro j
  rw [List.getElem?_modify, List.getElem?_set]
  by_cases hij : i = j
  · subst hij; simp [h]
  · simp [hij]
end Go.Proofs.Ytpijbdddegbjbaa
