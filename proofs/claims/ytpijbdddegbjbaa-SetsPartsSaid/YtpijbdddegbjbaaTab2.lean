/- Contracts of package table, second part: All, goes, Touch. Condition: the table lies as TableAt says, its clients are ints. -/
import Derived.Test.YtpijbdddegbjbaaTable
import Derived.Test.YtpijbdddegbjbaaKeys
namespace Go.Proofs.Ytpijbdddegbjbaa
open Go.RowKit Go.Proofs Go.Sort
def IntsWf {V : Type} (l : List (Int × V)) : Prop := ∀ p ∈ l, (Lit.int .i64 p.1).wf = true
/-- (*Table).All. -/
theorem all_ok (tb mb : Nat) (most : Int) (l : Tab) (w : World) (h : TableAt w tb mb most l) (hm : most ≠ 0) (hw : IntsWf l) (hn : l.length ≤ 1000000) :
    Calls Try.prog 47 #[.pointer (some ⟨tb, 0, none⟩)] w fun e w' => ∃ v, e = .returned v ∧ w'.ownsRow w.heap.size 3 1 v l.length ((sortedKeys l).map (Value.int .i64)) ∧ (v = .slice none 0 0 ↔ l = []) ∧ Below w.heap.size w w' := by
  have hc := blk_cell h.1 1
  have hnn := none_no tb mb most l w h hm
  have hk := callsIn_wide.1 (keysI_in (some mb) w)
  have hs := sortedI_ok mb l w h.2.1 hw hn
  refine hideR fun R' HR => ?_
  go_enter Try.func47, Try.ntmps47
  go_wp2_with (first
    | (go_at_call 107; refine hnn.mono ?_; rintro e w' ⟨rfl, rfl⟩)
    | (go_at_call 111; refine hk.mono ?_; rintro e w' ⟨rfl, rfl⟩)
    | (go_at_call 110; refine hs.mono ?_; rintro e w' ⟨v, rfl, hrow, hnil, hb⟩))
  refine HR.out _ _ ⟨v, rfl, ?_, hnil, ?_⟩
  · exact ⟨hrow.1, hrow.2.imp id (fun ⟨g, cap, cur, h1, h2, r⟩ => ⟨g, cap, cur, h1, by omega, r⟩)⟩
  · exact ((Below.refl _ _).alloc (Nat.le_refl _) _).trans (hb.mono (by omega))
def clOf (l : Tab) (x : Int) : Int × Bool := (mget l x).getD (0, false)
theorem look_cl {w : World} {mb : Nat} {l : Tab} (h : MapIs w mb encInt encCl l) (x : Int) : (Instr.lookup 142 (.map (some mb)) (.int .i64 x) false).run Try.prog w = .ok (.agg #[.int .i64 (clOf l x).1, .bool (clOf l x).2]) w := by
  have := h.look keyInt Try.underlying142 (zClient w) x false
  simp only [encInt, Bool.false_eq_true, if_false] at this
  rw [this]
  unfold clOf
  cases mget l x <;> rfl
theorem fieldCl0 (a : Int) (b : Bool) (w : World) : (Instr.field 146 (.agg #[.int .i64 a, .bool b]) 0).run Try.prog w = .ok (.int .i64 a) w := by kernel_rfl
theorem fieldCl1 (a : Int) (b : Bool) (w : World) : (Instr.field 146 (.agg #[.int .i64 a, .bool b]) 1).run Try.prog w = .ok (.bool b) w := by kernel_rfl
set_option maxRecDepth 100000 in
/-- The closure that tells who is not idle. -/
theorem goes1_ok (bx tb mb : Nat) (most : Int) (l : Tab) (x : Int) (w : World) (hx : w.cell? ⟨bx, 0, none⟩ = some (.pointer (some ⟨tb, 0, none⟩))) (h : TableAt w tb mb most l) :
    Calls Try.prog 152 #[.int .i64 x, .pointer (some ⟨bx, 0, none⟩)] w fun e w' => e = .returned (.bool (!(clOf l x).2)) ∧ w = w' := by
  have hc := blk_cell h.1 1
  have hl := look_cl h.2.1 x
  have hf := fieldCl1
  go_enter Try.func152, Try.ntmps152
  go_wp2
  go_ret
  exact ⟨rfl, rfl⟩
def orI (a b : Int) : Int := if a = 0 then b else a
theorem or_ok (b : Nat) (x y : Int) (c : Nat) (w : World) (h0 : w.cell? ⟨b, 0, none⟩ = some (.int .i64 x)) (h1 : w.cell? ⟨b, 1, none⟩ = some (.int .i64 y)) :
    Calls Try.prog 155 #[.slice (some ⟨b, 0, none⟩) 2 c] w fun e w' => e = .returned (.int .i64 (orI x y)) ∧ w = w' := by
  by_cases hx : x = 0
  · subst hx
    by_cases hy : y = 0
    · subst hy
      go_enter Try.func155, Try.ntmps155
      go_wp2
      refine wp_loop_rounds 3 ?_
      rw [rounds_succ]
      go_wp2
      rw [rounds_succ]
      go_wp2
      rw [rounds_succ]
      go_wp2
      go_ret
      exact ⟨rfl, rfl⟩
    · have hy' : (y != 0) = true := by simpa using hy
      go_enter Try.func155, Try.ntmps155
      go_wp2
      refine wp_loop_rounds 2 ?_
      rw [rounds_succ]
      go_wp2
      rw [rounds_succ]
      go_wp2
      go_ret
      exact ⟨rfl, rfl⟩
  · have hx' : (x != 0) = true := by simpa using hx
    have e : orI x y = x := by simp [orI, hx]
    rw [e]
    clear e hx
    go_enter Try.func155, Try.ntmps155
    go_wp2
    refine wp_loop_rounds 1 ?_
    rw [rounds_succ]
    go_wp2
    go_ret
    exact ⟨rfl, rfl⟩
/-- How two clients are compared. -/
def cmpCl (l : Tab) (x y : Int) : Int := orI (Lib.compareInt (clOf l x).1 (clOf l y).1) (Lib.compareInt x y)
set_option maxRecDepth 100000 in
set_option maxHeartbeats 1000000 in
/-- The closure that compares. -/
theorem goes2_ok (bx tb mb : Nat) (most : Int) (l : Tab) (x y : Int) (w : World) (hx : w.cell? ⟨bx, 0, none⟩ = some (.pointer (some ⟨tb, 0, none⟩))) (h : TableAt w tb mb most l) :
    Calls Try.prog 154 #[.int .i64 x, .int .i64 y, .pointer (some ⟨bx, 0, none⟩)] w fun e w' => e = .returned (.int .i64 (cmpCl l x y)) ∧ Below w.heap.size w w' := by
  have hc := blk_cell h.1 1
  have hm := h.2.1
  refine hideR fun R' HR => ?_
  go_enter Try.func154, Try.ntmps154
  go_wp2
  refine wp_tail 18 (by kernel_rfl) (by kernel_rfl) (fun w2 hx2 hf2 hh2 hb2 => ?_)
  have hm2 : MapIs w2 mb encInt encCl l := hm.of_blk (by rw [hh2.out])
  have hl := look_cl hm2 x
  have hl' := look_cl hm2 y
  have hf := fieldCl0
  have hbel : Hid (Below w.heap.size w w2) := Lib.hid (hb2.out _ _ (Below.refl _ _))
  clear hb2 hh2
  simp only [List.take_succ_cons, List.take_zero, List.drop_succ_cons, List.drop_zero]
  repeat still_step
  still_call (Try.cmp_Compare_int _ _ _)
  still_step
  still_step
  still_call (Try.cmp_Compare_int _ _ _)
  refine wpStill_nil ?_
  clear hl hl' hf hm2
  go_wp2_with fail
  refine (or_ok w2.heap.size (Lib.compareInt (clOf l x).1 (clOf l y).1) (Lib.compareInt x y) _ _ ?_ ?_).mono ?_
  · simp
  · simp
  rintro e w' ⟨rfl, rfl⟩
  go_wp2
  exact HR.out _ _ ⟨rfl, hbel.out.alloc (hbel.out.size) _⟩
/-- The least one of a list, as slices.MinFunc goes. -/
def minF (cmp : Int → Int → Int) (x : Int) (xs : List Int) : Int := xs.foldl (fun m y => if cmp y m < 0 then y else m) x
theorem minF_snoc (cmp : Int → Int → Int) (x : Int) (xs : List Int) (y : Int) : minF cmp x (xs ++ [y]) = if cmp y (minF cmp x xs) < 0 then y else minF cmp x xs := by
  unfold minF
  rw [List.foldl_append]
  rfl
theorem take_snoc {α : Type} [Inhabited α] (l : List α) (k : Nat) (h : k < l.length) : l.take (k + 1) = l.take k ++ [l[k]] := by
  rw [List.take_succ_eq_append_getElem h]
set_option maxRecDepth 100000 in
set_option maxHeartbeats 1000000 in
theorem minFunc_ok (g : Nat) (lb : Array Value) (cmp : Int → Int → Int) (eg : ∀ args w, (callFunc g args).run Try.prog w = .ok (.enter g args) w) (b off c : Nat) (x : Int) (xs : List Int) (w : World) (hlen : xs.length ≤ 1000000)
    (hb : b < w.heap.size) (hcell : ∀ j, j < xs.length + 1 → w.cell? ⟨b, off + j, none⟩ = some (.int .i64 ((x :: xs).getD j 0)))
    (hc : ∀ (W : World) (y z : Int), Below w.heap.size w W → Calls Try.prog g (#[.int .i64 y, .int .i64 z] ++ lb) W fun e w' => e = .returned (.int .i64 (cmp y z)) ∧ Below W.heap.size W w') :
    Calls Try.prog 153 #[.slice (some ⟨b, off, none⟩) (xs.length + 1) c, .func (.func g) #[] lb] w fun e w' => e = .returned (.int .i64 (minF cmp x xs)) ∧ Below w.heap.size w w' := by
  have h0 := hcell 0 (by omega)
  simp only [Nat.add_zero, List.getD_cons_zero] at h0
  refine hideR fun R' HR => ?_
  have HC := Lib.hid hc
  have HCell := Lib.hid hcell
  clear hc hcell
  go_enter Try.func153, Try.ntmps153
  go_wp2
  go_loopw [5, 6] (fun m i wr => ∃ k : Nat, k ≤ xs.length ∧ i = .int .i64 (k + 1) ∧ m = .int .i64 (minF cmp x (xs.take k)) ∧ Below w.heap.size w wr)
    (fun _ i _ => xs.length + 1 - (intOf i).toNat)
  case atStart => exact ⟨0, Nat.zero_le _, rfl, rfl, Below.refl _ _⟩
  case round =>
    obtain ⟨k, hk, rfl, rfl, hbel⟩ := hrel
    by_cases hlt : k < xs.length
    · have hck : wr.cell? ⟨b, off + (k + 1), none⟩ = some (.int .i64 xs[k]) := by
        rw [hbel.cell (by exact hb), HCell.out (k + 1) (by omega)]
        simp [List.getD, hlt]
      have hmin := minF_snoc cmp x (xs.take k) xs[k]
      rw [← take_snoc xs k hlt] at hmin
      have HM := Lib.hid hmin
      clear hmin
      go_wp2_with fail
      refine (HC.out _ _ _ hbel).mono ?_
      rintro e w1 ⟨rfl, hb1⟩
      have hbel1 := hbel.trans (hb1.mono hbel.size)
      have hck1 : w1.cell? ⟨b, off + (k + 1), none⟩ = some (.int .i64 xs[k]) := by
        rw [hbel1.cell (by exact hb), HCell.out (k + 1) (by omega)]
        simp [List.getD, hlt]
      by_cases hneg : cmp xs[k] (minF cmp x (xs.take k)) < 0
      · go_wp2
        go_roundw
        case rel => exact ⟨k + 1, by omega, by go_num, by rw [HM.out, if_pos hneg], hbel1⟩
        case measure => simp [intOf]; omega
      · go_wp2
        go_roundw
        case rel => exact ⟨k + 1, by omega, by go_num, by rw [HM.out, if_neg (by omega)], hbel1⟩
        case measure => simp [intOf]; omega
    · go_wp2
      have : k = xs.length := by omega
      subst this
      exact HR.out _ _ ⟨by simp, hbel⟩
end Go.Proofs.Ytpijbdddegbjbaa
