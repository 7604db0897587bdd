/- Contracts of package table. Condition: the table's block and its map's block lie as TableAt says. -/
import Derived.Test.YtpijbdddegbjbaaProg
import Derived.Test.YtpijbdddegbjbaaMem
import Derived.StillTailTactics
namespace Go.Proofs.Ytpijbdddegbjbaa
open Go.RowKit Go.Proofs
@[simp] def encCl (c : Int × Bool) : Value := .agg #[.int .i64 c.1, .bool c.2]
abbrev Tab := List (Int × Int × Bool)
def TableAt (w : World) (tb mb : Nat) (most : Int) (l : Tab) : Prop :=
  w.heap[tb]? = some (.cells #[.int .i64 most, .map (some mb)] 144 (0, 0)) ∧ MapIs w mb encInt encCl l ∧ tb ≠ mb
theorem TableAt.below {w w' : World} {tb mb B : Nat} {most : Int} {l : Tab} (h : TableAt w tb mb most l) (hb : Below B w w') (h1 : tb < B) (h2 : mb < B) : TableAt w' tb mb most l :=
  ⟨bel_blk hb h1 h.1, h.2.1.below hb h2, h.2.2⟩
theorem zClient (w : World) : (zeroValue 146).run Try.prog w = .ok (.agg #[.int .i64 0, .bool false]) w := by kernel_rfl
theorem keyInt : KeyOK Try.prog 3 encInt := intKey Try.underlying3
/-- (*Table).none at a table. -/
theorem none_no (tb mb : Nat) (most : Int) (l : Tab) (w : World) (h : TableAt w tb mb most l) (hm : most ≠ 0) :
    Calls Try.prog 107 #[.pointer (some ⟨tb, 0, none⟩)] w fun e w' => e = .returned (.bool false) ∧ w = w' := by
  have hc := blk_cell h.1 0
  have hm' : (most == 0) = false := beq_eq_false_iff_ne.2 hm
  clear hm
  go_enter Try.func107, Try.ntmps107
  go_wp2
  go_ret
  exact ⟨rfl, rfl⟩
/-- (*Table).When. -/
theorem when_ok (tb mb : Nat) (most : Int) (l : Tab) (k : Int) (w : World) (h : TableAt w tb mb most l) (hm : most ≠ 0) :
    Calls Try.prog 44 #[.pointer (some ⟨tb, 0, none⟩), .int .i64 k] w fun e w' => e = .returned (.tuple #[.int .i64 ((mget l k).map (·.1) |>.getD 0), .bool (mget l k).isSome]) ∧ Below w.heap.size w w' := by
  have hc := blk_cell h.1 1
  have hn := none_no tb mb most l w h hm
  cases hg : mget l k with
  | none =>
    go_enter Try.func44, Try.ntmps44
    go_wp2_with (first
      | (go_at_call 107; refine hn.mono ?_; rintro e w' ⟨rfl, rfl⟩)
      | (at_lookup; refine wpList_look_none _ rfl _ _ 142 rfl keyInt Try.underlying142 mb rfl h.2.1 k rfl (zClient _) hg ?_))
    go_ret2
    exact ⟨rfl, (Below.refl _ _).alloc (Nat.le_refl _) _⟩
  | some c =>
    obtain ⟨a, b⟩ := c
    go_enter Try.func44, Try.ntmps44
    go_wp2_with (first
      | (go_at_call 107; refine hn.mono ?_; rintro e w' ⟨rfl, rfl⟩)
      | (at_lookup; refine wpList_look_some _ rfl _ _ 142 rfl keyInt Try.underlying142 mb rfl h.2.1 k rfl (zClient _) hg ?_))
    go_ret2
    exact ⟨rfl, (Below.refl _ _).alloc (Nat.le_refl _) _⟩
/-- (*Table).Has. -/
theorem has_ok (tb mb : Nat) (most : Int) (l : Tab) (k : Int) (w : World) (h : TableAt w tb mb most l) (hm : most ≠ 0) :
    Calls Try.prog 46 #[.pointer (some ⟨tb, 0, none⟩), .int .i64 k] w fun e w' => e = .returned (.bool (mget l k).isSome) ∧ Below w.heap.size w w' := by
  have hw := when_ok tb mb most l k w h hm
  go_enter Try.func46, Try.ntmps46
  go_wp2_with (go_at_call 44; refine hw.mono ?_; rintro e w' ⟨rfl, hb⟩)
  go_ret
  exact ⟨rfl, hb⟩
/-- (*Table).Len. -/
theorem len_ok (tb mb : Nat) (most : Int) (l : Tab) (w : World) (h : TableAt w tb mb most l) (hm : most ≠ 0) :
    Calls Try.prog 40 #[.pointer (some ⟨tb, 0, none⟩)] w fun e w' => e = .returned (.int .i64 l.length) ∧ w = w' := by
  have hc := blk_cell h.1 1
  have hn := none_no tb mb most l w h hm
  go_enter Try.func40, Try.ntmps40
  go_wp2_with (first
      | (go_at_call 107; refine hn.mono ?_; rintro e w' ⟨rfl, rfl⟩)
      | (at_len; refine wpList_mlen _ rfl _ 142 rfl Try.underlying142 mb rfl h.2.1 ?_))
  go_ret
  exact ⟨rfl, rfl⟩
/-- New, of a number that may not be. -/
theorem new_bad (most : Int) (w : World) (hm : most < 1 ∨ 1024 < most) :
    Calls Try.prog 37 #[.int .i64 most] w fun e w' => e = .returned (.tuple #[.pointer none, .int .i64 2]) ∧ Below w.heap.size w w' := by
  have hmm := @run_makeMap Try.prog
  by_cases h1 : most < 1
  · go_enter Try.func37, Try.ntmps37
    go_wp2
    go_ret2
    exact ⟨rfl, Below.refl _ _⟩
  · have h2 : 1024 < most := by omega
    go_enter Try.func37, Try.ntmps37
    go_wp2
    go_ret2
    exact ⟨rfl, Below.refl _ _⟩
/-- New. -/
theorem new_ok (most : Int) (w : World) (h1 : ¬ most < 1) (h2 : ¬ 1024 < most) :
    Calls Try.prog 37 #[.int .i64 most] w fun e w' => ∃ tb mb, e = .returned (.tuple #[.pointer (some ⟨tb, 0, none⟩), .int .i64 0]) ∧ TableAt w' tb mb most [] ∧ w.heap.size ≤ tb ∧ w.heap.size ≤ mb ∧ Below w.heap.size w w' := by
  have hmm := @run_makeMap Try.prog
  refine hideR fun R' HR => ?_
  go_enter Try.func37, Try.ntmps37
  go_wp2
  refine HR.out _ _ ⟨w.heap.size + 1, w.heap.size, rfl, ⟨?_, ?_, by omega⟩, by omega, by omega, ((Below.refl _ _).alloc (Nat.le_refl _) _).alloc (by simp) _⟩
  · have := blk_new (w.alloc (.map #[] 0)) (.cells #[.int .i64 most, .map (some w.heap.size)] 144)
    simpa using this
  · exact (MapIs.made w encInt encCl).alloc _
/-- (*Table).Idle at a client that is not there. -/
theorem idle_no (tb mb : Nat) (most : Int) (l : Tab) (k : Int) (is : Bool) (w : World) (h : TableAt w tb mb most l) (hm : most ≠ 0) (hg : mget l k = none) :
    Calls Try.prog 39 #[.pointer (some ⟨tb, 0, none⟩), .int .i64 k, .bool is] w fun e w' => e = .returned (.int .i64 6) ∧ Below w.heap.size w w' := by
  have hc := blk_cell h.1 1
  have hn := none_no tb mb most l w h hm
  go_enter Try.func39, Try.ntmps39
  go_wp2_with (first
      | (go_at_call 107; refine hn.mono ?_; rintro e w' ⟨rfl, rfl⟩)
      | (at_lookup; refine wpList_look_none _ rfl _ _ 142 rfl keyInt Try.underlying142 mb rfl h.2.1 k rfl (zClient _) hg ?_))
  go_ret
  exact ⟨rfl, (Below.refl _ _).alloc (Nat.le_refl _) _⟩
set_option maxRecDepth 100000 in
/-- (*Table).Idle. -/
theorem idle_ok (tb mb : Nat) (most : Int) (l : Tab) (k : Int) (is : Bool) (w : World) (h : TableAt w tb mb most l) (hm : most ≠ 0) (a : Int) (b : Bool) (hg : mget l k = some (a, b)) :
    Calls Try.prog 39 #[.pointer (some ⟨tb, 0, none⟩), .int .i64 k, .bool is] w fun e w' => e = .returned (.int .i64 0) ∧ TableAt w' tb mb most (mput l k (a, is)) ∧ w.grownBy w' (some mb) := by
  have hc := blk_cell h.1 1
  have hlt := blk_lt h.1
  have hlm := h.2.1.lt
  have hn := none_no tb mb most l w h hm
  go_enter Try.func39, Try.ntmps39
  go_wp2_with (first
      | (go_at_call 107; refine hn.mono ?_; rintro e w' ⟨rfl, rfl⟩)
      | (at_lookup; refine wpList_look_some _ rfl _ _ 142 rfl keyInt Try.underlying142 mb rfl h.2.1 k rfl (zClient _) hg ?_))
  refine wp_tail 6 (by kernel_rfl) (by kernel_rfl) (fun w2 hx2 hf2 hh2 hb2 => ?_)
  simp only [List.take_succ_cons, List.take_zero, List.drop_succ_cons, List.drop_zero]
  repeat still_step
  refine wpStill_nil ?_
  have hbel : Below w.heap.size w w2 := hb2.out _ _ ((Below.refl _ _).alloc (Nat.le_refl _) _)
  go_wp2_with (at_mapUpdate; refine wpList_mstore _ rfl _ _ _ 142 rfl keyInt Try.underlying142 mb rfl (h.2.1.below hbel hlm) k rfl (a, is) rfl ?_; intro w3 hm3 hg3)
  have hg := grown_trans (grown_of_below hbel) hg3
  go_ret
  exact ⟨rfl, ⟨(hg.block _ hlt (fun e => h.2.2 (by simpa using e))).trans h.1, hm3, h.2.2⟩, hg⟩
end Go.Proofs.Ytpijbdddegbjbaa
