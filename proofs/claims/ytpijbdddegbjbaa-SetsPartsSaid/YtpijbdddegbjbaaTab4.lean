/- Contracts of package table, fourth part: Touch. Condition: the table lies as TableAt says, its clients are ints. -/
import Derived.Test.YtpijbdddegbjbaaTab3
import Derived.OwnWalk
namespace Go.Proofs.Ytpijbdddegbjbaa
open Go.RowKit Go.Proofs Go.Sort
def touchIs (a : Int × Bool × Int) : Value := .tuple #[.int .i64 a.1, .bool a.2.1, .int .i64 a.2.2]
theorem touch_arg (tb mb : Nat) (most : Int) (l : Tab) (k now : Int) (w : World) (h : TableAt w tb mb most l) (hm : most ≠ 0) (hnow : now < 0 ∨ 1099511627776 < now) :
    Calls Try.prog 38 #[.pointer (some ⟨tb, 0, none⟩), .int .i64 k, .int .i64 now] w fun e w' => e = .returned (.tuple #[.int .i64 0, .bool false, .int .i64 2]) ∧ w' = w := by
  have hn := none_no tb mb most l w h hm
  by_cases h1 : now < 0
  · go_enter Try.func38, Try.ntmps38
    go_wp2_with (go_at_call 107; refine hn.mono ?_; rintro e w' ⟨rfl, rfl⟩)
    go_ret3
    exact ⟨rfl, rfl⟩
  · have h2 : 1099511627776 < now := by omega
    go_enter Try.func38, Try.ntmps38
    go_wp2_with (go_at_call 107; refine hn.mono ?_; rintro e w' ⟨rfl, rfl⟩)
    go_ret3
    exact ⟨rfl, rfl⟩
theorem tabBlk {w w' : World} {tb mb : Nat} {most : Int} {l l' : Tab} (h : TableAt w tb mb most l) (hg : w.grownBy w' (some mb)) (hm : MapIs w' mb encInt encCl l') : TableAt w' tb mb most l' :=
  ⟨(hg.block _ (blk_lt h.1) (fun e => h.2.2 (by simpa using e))).trans h.1, hm, h.2.2⟩
set_option maxRecDepth 100000 in
set_option maxHeartbeats 1000000 in
theorem touch_has (tb mb : Nat) (most : Int) (l : Tab) (k now : Int) (w : World) (h : TableAt w tb mb most l) (hm : most ≠ 0) (hnow : 0 ≤ now) (hnow2 : now ≤ 1099511627776) (a : Int) (b : Bool) (hg : mget l k = some (a, b)) :
    Calls Try.prog 38 #[.pointer (some ⟨tb, 0, none⟩), .int .i64 k, .int .i64 now] w fun e w' => e = .returned (.tuple #[.int .i64 0, .bool false, .int .i64 0]) ∧ TableAt w' tb mb most (mput l k (max a now, b)) ∧ w.grownBy w' (some mb) := by
  have hc := blk_cell h.1 1
  have hlt := blk_lt h.1
  have hlm := h.2.1.lt
  have hn := none_no tb mb most l w h hm
  refine hideR fun R' HR => ?_
  go_enter Try.func38, Try.ntmps38
  go_wp2_with (first
      | (go_at_call 107; refine hn.mono ?_; rintro e w' ⟨rfl, rfl⟩)
      | (at_lookup; refine wpList_look_some _ rfl _ _ 142 rfl keyInt Try.underlying142 mb rfl h.2.1 k rfl (zClient _) hg ?_))
  refine wp_tail 6 (by kernel_rfl) (by kernel_rfl) (fun w2 hx2 hf2 hh2 hb2 => ?_)
  simp only [List.take_succ_cons, List.take_zero, List.drop_succ_cons, List.drop_zero]
  repeat still_step
  refine wpStill_nil ?_
  have hbel : Below w.heap.size w w2 := hb2.out _ _ ((Below.refl _ _).alloc (Nat.le_refl _) _)
  go_wp2_with (at_mapUpdate; refine wpList_mstore _ rfl _ _ _ 142 rfl keyInt Try.underlying142 mb rfl (h.2.1.below hbel hlm) k rfl (max a now, b) rfl ?_; intro w3 hm3 hg3)
  have hg := grown_trans (grown_of_below hbel) hg3
  go_ret3
  exact HR.out _ _ ⟨rfl, tabBlk h hg hm3, hg⟩
set_option maxRecDepth 100000 in
set_option maxHeartbeats 1000000 in
theorem touch_room (tb mb : Nat) (most : Int) (l : Tab) (k now : Int) (w : World) (h : TableAt w tb mb most l) (hm : most ≠ 0) (hnow : 0 ≤ now) (hnow2 : now ≤ 1099511627776) (hg : mget l k = none) (hroom : (l.length : Int) < most) :
    Calls Try.prog 38 #[.pointer (some ⟨tb, 0, none⟩), .int .i64 k, .int .i64 now] w fun e w' => e = .returned (.tuple #[.int .i64 0, .bool false, .int .i64 0]) ∧ TableAt w' tb mb most (mput l k (now, false)) ∧ w.grownBy w' (some mb) := by
  have hc := blk_cell h.1 1
  have hc0 := blk_cell h.1 0
  have hlt := blk_lt h.1
  have hlm := h.2.1.lt
  have hn := none_no tb mb most l w h hm
  refine hideR fun R' HR => ?_
  go_enter Try.func38, Try.ntmps38
  go_wp2_with (first
      | (go_at_call 107; refine hn.mono ?_; rintro e w' ⟨rfl, rfl⟩)
      | (at_lookup; refine wpList_look_none _ rfl _ _ 142 rfl keyInt Try.underlying142 mb rfl h.2.1 k rfl (zClient _) hg ?_))
  have hbel : Below w.heap.size w ((w.alloc (.cells #[.int .i64 0, .bool false] 146))) := (Below.refl _ _).alloc (Nat.le_refl _) _
  refine wp_tail 9 (by kernel_rfl) (by kernel_rfl) (fun w2 hx2 hf2 hh2 hb2 => ?_)
  have hm2 : MapIs w2 mb encInt encCl l := (h.2.1.below hbel hlm).of_blk (by rw [hh2.out])
  have hlen := fun ty => hm2.len (P := Try.prog) Try.underlying142 ty
  have hbel2 := hb2.out _ _ hbel
  simp only [List.take_succ_cons, List.take_zero, List.drop_succ_cons, List.drop_zero]
  repeat still_step
  refine wpStill_nil ?_
  go_wp2_with (at_mapUpdate; refine wpList_mstore _ rfl _ _ _ 142 rfl keyInt Try.underlying142 mb rfl hm2 k rfl (now, false) rfl ?_; intro w3 hm3 hg3)
  go_ret3
  have hg := grown_trans (grown_of_below hbel2) hg3
  exact HR.out _ _ ⟨rfl, tabBlk h hg hm3, hg⟩
set_option maxRecDepth 100000 in
set_option maxHeartbeats 1000000 in
theorem touch_full (tb mb : Nat) (most : Int) (l : Tab) (k now : Int) (w : World) (h : TableAt w tb mb most l) (hm : 1 ≤ most) (hw : IntsWf l) (hn : l.length ≤ 1000000) (hnow : 0 ≤ now) (hnow2 : now ≤ 1099511627776) (hg : mget l k = none) (hroom : ¬ (l.length : Int) < most) (hF : goesF l = none) :
    Calls Try.prog 38 #[.pointer (some ⟨tb, 0, none⟩), .int .i64 k, .int .i64 now] w fun e w' => e = .returned (.tuple #[.int .i64 0, .bool false, .int .i64 8]) ∧ Below w.heap.size w w' := by
  have hc := blk_cell h.1 1
  have hc0 := blk_cell h.1 0
  have hlt := blk_lt h.1
  have hlm := h.2.1.lt
  have hnn := none_no tb mb most l w h (by omega)
  have hne : l ≠ [] := by rintro rfl; simp at hroom; omega
  refine hideR fun R' HR => ?_
  go_enter Try.func38, Try.ntmps38
  go_wp2_with (first
      | (go_at_call 107; refine hnn.mono ?_; rintro e w' ⟨rfl, rfl⟩)
      | (at_lookup; refine wpList_look_none _ rfl _ _ 142 rfl keyInt Try.underlying142 mb rfl h.2.1 k rfl (zClient _) hg ?_))
  have hbel : Below w.heap.size w ((w.alloc (.cells #[.int .i64 0, .bool false] 146))) := (Below.refl _ _).alloc (Nat.le_refl _) _
  refine wp_tail 9 (by kernel_rfl) (by kernel_rfl) (fun w2 hx2 hf2 hh2 hb2 => ?_)
  have hm2 : MapIs w2 mb encInt encCl l := (h.2.1.below hbel hlm).of_blk (by rw [hh2.out])
  have hlen := fun ty => hm2.len (P := Try.prog) Try.underlying142 ty
  have hbel2 := hb2.out _ _ hbel
  have h2 : TableAt w2 tb mb most l := h.below hbel2 hlt hlm
  have hgo := goes_ok tb mb most l w2 h2 (by omega) hw hn hne
  rw [hF] at hgo
  simp only [List.take_succ_cons, List.take_zero, List.drop_succ_cons, List.drop_zero]
  repeat still_step
  refine wpStill_nil ?_
  go_wp2_with (go_at_call 108; refine hgo.mono ?_; rintro e w3 ⟨rfl, hb3⟩)
  go_ret3
  exact HR.out _ _ ⟨rfl, hbel2.trans (hb3.mono hbel2.size)⟩
set_option maxRecDepth 100000 in
set_option maxHeartbeats 1000000 in
theorem touch_gone (tb mb : Nat) (most : Int) (l : Tab) (k now : Int) (w : World) (h : TableAt w tb mb most l) (hm : 1 ≤ most) (hw : IntsWf l) (hn : l.length ≤ 1000000) (hnow : 0 ≤ now) (hnow2 : now ≤ 1099511627776) (hg : mget l k = none) (hroom : ¬ (l.length : Int) < most) (o : Int) (hF : goesF l = some o) :
    Calls Try.prog 38 #[.pointer (some ⟨tb, 0, none⟩), .int .i64 k, .int .i64 now] w fun e w' => e = .returned (.tuple #[.int .i64 o, .bool true, .int .i64 0]) ∧ TableAt w' tb mb most (mput (mdel l o) k (now, false)) ∧ w.grownBy w' (some mb) := by
  have hc := blk_cell h.1 1
  have hc0 := blk_cell h.1 0
  have hlt := blk_lt h.1
  have hlm := h.2.1.lt
  have hnn := none_no tb mb most l w h (by omega)
  have hne : l ≠ [] := by rintro rfl; simp at hroom; omega
  refine hideR fun R' HR => ?_
  go_enter Try.func38, Try.ntmps38
  go_wp2_with (first
      | (go_at_call 107; refine hnn.mono ?_; rintro e w' ⟨rfl, rfl⟩)
      | (at_lookup; refine wpList_look_none _ rfl _ _ 142 rfl keyInt Try.underlying142 mb rfl h.2.1 k rfl (zClient _) hg ?_))
  have hbel : Below w.heap.size w ((w.alloc (.cells #[.int .i64 0, .bool false] 146))) := (Below.refl _ _).alloc (Nat.le_refl _) _
  refine wp_tail 9 (by kernel_rfl) (by kernel_rfl) (fun w2 hx2 hf2 hh2 hb2 => ?_)
  have hm2 : MapIs w2 mb encInt encCl l := (h.2.1.below hbel hlm).of_blk (by rw [hh2.out])
  have hlen := fun ty => hm2.len (P := Try.prog) Try.underlying142 ty
  have hbel2 := hb2.out _ _ hbel
  have h2 : TableAt w2 tb mb most l := h.below hbel2 hlt hlm
  have hgo := goes_ok tb mb most l w2 h2 (by omega) hw hn hne
  rw [hF] at hgo
  simp only [List.take_succ_cons, List.take_zero, List.drop_succ_cons, List.drop_zero]
  repeat still_step
  refine wpStill_nil ?_
  go_wp2_with fail
  refine hgo.mono ?_
  rintro e w3 ⟨rfl, hb3⟩
  have hbel3 := hbel2.trans (hb3.mono hbel2.size)
  have h3 : TableAt w3 tb mb most l := h.below hbel3 hlt hlm
  have hc3 := blk_cell h3.1 1
  go_wp2_with (first
    | (at_delete; refine wpList_mdelete _ rfl _ _ 142 rfl keyInt Try.underlying142 mb rfl h3.2.1 o rfl ?_; intro w4 hm4 hg4; have h4 := tabBlk h3 hg4 hm4; have hc4 := blk_cell h4.1 1)
    | (at_mapUpdate; refine wpList_mstore _ rfl _ _ _ 142 rfl keyInt Try.underlying142 mb rfl h4.2.1 k rfl (now, false) rfl ?_; intro w5 hm5 hg5))
  go_ret3
  have hg := grown_trans (grown_trans (grown_of_below hbel3) hg4) hg5
  exact HR.out _ _ ⟨rfl, tabBlk h4 hg5 hm5, hg⟩
/-- Touch, whole. -/
theorem touch_ok (tb mb : Nat) (most : Int) (l : Tab) (k now : Int) (w : World) (h : TableAt w tb mb most l) (hm : 1 ≤ most) (hw : IntsWf l) (hn : l.length ≤ 1000000) :
    Calls Try.prog 38 #[.pointer (some ⟨tb, 0, none⟩), .int .i64 k, .int .i64 now] w fun e w' => e = .returned (touchIs (touchM most l k now).1) ∧ TableAt w' tb mb most (touchM most l k now).2 ∧ w.grownBy w' (some mb) := by
  have htb := blk_lt h.1
  have hmb := h.2.1.lt
  have kb : ∀ w', Below w.heap.size w w' → TableAt w' tb mb most l ∧ w.grownBy w' (some mb) := fun w' hb => ⟨h.below hb htb hmb, grown_of_below hb⟩
  unfold touchM
  by_cases h1 : now < 0 ∨ 1099511627776 < now
  · rw [if_pos h1]
    refine (touch_arg tb mb most l k now w h (by omega) h1).mono ?_
    rintro e w' ⟨rfl, rfl⟩
    exact ⟨rfl, kb _ (Below.refl _ _)⟩
  · rw [if_neg h1]
    cases hg : mget l k with
    | some c => exact touch_has tb mb most l k now w h (by omega) (by omega) (by omega) c.1 c.2 hg
    | none =>
      by_cases h2 : (l.length : Int) < most
      · simp only [h2, if_true]
        exact touch_room tb mb most l k now w h (by omega) (by omega) (by omega) hg h2
      · simp only [h2, if_false]
        cases hF : goesF l with
        | none =>
          refine (touch_full tb mb most l k now w h hm hw hn (by omega) (by omega) hg h2 hF).mono ?_
          rintro e w' ⟨rfl, hb⟩
          exact ⟨rfl, kb _ hb⟩
        | some o => exact touch_gone tb mb most l k now w h hm hw hn (by omega) (by omega) hg h2 o hF
end Go.Proofs.Ytpijbdddegbjbaa
