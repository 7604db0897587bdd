/- Plain laws for ostiarylaw20.TableGoes: the flags beside the table. No condition. -/
import Derived.Test.YtpijbdddegbjbaaKnown
namespace Go.Proofs.Ytpijbdddegbjbaa
open Go.RowKit Go.Proofs Go.Sort
def Flags (l : Tab) (il : List (Int × Bool)) : Prop := ∀ k, (mget il k).getD false = (clOf l k).2
theorem clOf_put (l : Tab) (c : Int) (v : Int × Bool) (k : Int) : clOf (mput l c v) k = if k = c then v else clOf l k := by
  unfold clOf
  by_cases h : k = c
  · subst h; simp [mget_put_same]
  · simp [h, mget_put_other _ _ h]
theorem clOf_del (l : Tab) (o k : Int) : clOf (mdel l o) k = if k = o then (0, false) else clOf l k := by
  unfold clOf
  by_cases h : k = o
  · subst h; simp [mget_del_same]
  · simp [h, mget_del_other _ h]
theorem clOf_none {l : Tab} {c : Int} (h : mget l c = none) : clOf l c = (0, false) := by simp [clOf, h]
theorem flags_put {l : Tab} {il : List (Int × Bool)} (h : Flags l il) (c a : Int) (is : Bool) : Flags (mput l c (a, is)) (mput il c is) := by
  intro k
  rw [clOf_put]
  by_cases hk : k = c
  · subst hk; simp [mget_put_same]
  · rw [mget_put_other _ _ hk, if_neg hk, h k]
theorem flags_has {l : Tab} {il : List (Int × Bool)} (h : Flags l il) (c a : Int) (b : Bool) (hg : (clOf l c).2 = b) : Flags (mput l c (a, b)) il := by
  intro k
  rw [clOf_put]
  by_cases hk : k = c
  · subst hk; rw [h k, hg]; simp
  · rw [if_neg hk, h k]
theorem flags_new {l : Tab} {il : List (Int × Bool)} (h : Flags l il) (c a : Int) : Flags (mput l c (a, false)) (mdel il c) := by
  intro k
  rw [clOf_put]
  by_cases hk : k = c
  · subst hk; simp [mget_del_same]
  · rw [mget_del_other _ hk, if_neg hk, h k]
theorem flags_gone {l : Tab} {il : List (Int × Bool)} (h : Flags l il) (o : Int) : Flags (mdel l o) (mdel il o) := by
  intro k
  rw [clOf_del]
  by_cases hk : k = o
  · subst hk; simp [mget_del_same]
  · rw [mget_del_other _ hk, if_neg hk, h k]
theorem wf_put {l : Tab} (h : IntsWf l) (c : Int) (v : Int × Bool) (hc : (Lit.int .i64 c).wf = true) : IntsWf (mput l c v) := by
  intro p hp
  unfold mput at hp
  split at hp
  · rw [List.mem_map] at hp
    obtain ⟨q, hq, rfl⟩ := hp
    by_cases hk : q.1 = c
    · simp [hk, hc]
    · simp [hk]; exact h q hq
  · rcases List.mem_append.1 hp with hp | hp
    · exact h p hp
    · simp at hp; subst hp; exact hc
theorem wf_del {l : Tab} (h : IntsWf l) (o : Int) : IntsWf (mdel l o) := fun p hp => h p (by unfold mdel at hp; exact (List.mem_filter.1 hp).1)
theorem del_len {l : Tab} (hn : (l.map (·.1)).Nodup) {o : Int} (h : o ∈ l.map (·.1)) : (mdel l o).length + 1 = l.length := by
  have hi : ∃ i, l.findIdx? (fun p => decide (p.1 = o)) = some i := by
    cases hf : l.findIdx? (fun p => decide (p.1 = o)) with
    | some i => exact ⟨i, rfl⟩
    | none =>
      rw [List.findIdx?_eq_none_iff] at hf
      obtain ⟨p, hp, rfl⟩ := List.mem_map.1 h
      have := hf p hp
      simp at this
  obtain ⟨i, hi⟩ := hi
  rw [mdel_at hn hi]
  have hlt : i < l.length := (List.findIdx?_eq_some_iff_getElem.1 hi).1
  rw [List.length_eraseIdx, if_pos hlt]
  omega
theorem put_new_len {l : Tab} {c : Int} (v : Int × Bool) (h : mget l c = none) : (mput l c v).length = l.length + 1 := by
  rw [mput_new v h]; simp
theorem sorted_len (l : Tab) : (sortedKeys l).length = l.length := by simp [sortedKeys]
theorem sorted_mem (l : Tab) (x : Int) : x ∈ sortedKeys l ↔ x ∈ l.map (·.1) := by simp [sortedKeys]
theorem mget_some {l : Tab} {x : Int} (h : x ∈ l.map (·.1)) : (mget l x).isSome = true := by
  cases hh : mget l x with
  | none => exact absurd h (mget_none.1 hh)
  | some c => rfl
theorem sorted_wf {l : Tab} (h : IntsWf l) : ∀ x ∈ sortedKeys l, (Lit.int .i64 x).wf = true := by
  intro x hx
  rw [sorted_mem] at hx
  obtain ⟨p, hp, rfl⟩ := List.mem_map.1 hx
  exact h p hp
end Go.Proofs.Ytpijbdddegbjbaa
