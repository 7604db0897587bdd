/- sets.Check at a set of a name and one empty text: it tells whether the name may be. Condition: a bound on the size. -/
import Derived.Test.YtpijbdddegbjbaaRecs
import Derived.Deep.RegionHeld3
namespace Go.Proofs.Ytpijbdddegbjbaa
open Go.RowKit Go.Proofs
theorem short_ok (n : Int) (w : World) (h0 : 0 ≤ n) (h1 : n ≤ 65535) : Calls Try.prog 95 #[.int .i64 n] w fun e w' => e = .returned (.bool true) ∧ w = w' := by
  have h0' : decide (n ≥ 0) = true := by simpa using h0
  have h1' : decide (n ≤ 65535) = true := by simpa using h1
  go_enter Try.func95, Try.ntmps95
  go_wp2
  go_ret
  exact ⟨rfl, rfl⟩
theorem keyStr : KeyOK Try.prog 9 encStr := strKey Try.underlying9
def encUnit (_ : Unit) : Value := .agg #[]
theorem zUnit (w : World) : (zeroValue 130).run Try.prog w = .ok (.agg #[]) w := by kernel_rfl
set_option maxRecDepth 100000 in
set_option maxHeartbeats 1000000 in
theorem setCheck_ok (s : ByteArray) (g : Nat) (w : World) (hs : s.size ≤ 1000000000) (hg : w.cell? ⟨g, 0, none⟩ = some (.string (sb []))) :
    Calls Try.prog 27 #[.agg #[.string s, .int .i64 0, .int .i64 0, .int .i64 0, .slice (some ⟨g, 0, none⟩) 1 1]] w fun e w' => e = .returned (.int .i64 (if labErr (bl s) = 0 then 0 else 2)) ∧ Below w.heap.size w w' := by
  have hmm := @run_makeMap Try.prog
  have C := fun W => Lib.hid (check_ok s W hs)
  have hgl := cell_lt hg
  refine hideR fun R' HR => ?_
  by_cases hz : labErr (bl s) = 0
  · have HZ : Hid ((if labErr (bl s) = 0 then (0 : Int) else 2) = 0) := Lib.hid (if_pos hz)
    rw [hz] at C
    clear hz
    go_enter Try.func27, Try.ntmps27
    go_wp2_with fail
    refine (C _).out.mono ?_
    rintro e w1 ⟨rfl, hb1⟩
    have hcg := (hb1.cell (p := ⟨g, 0, none⟩) (by simp; omega)).trans ((World.cell?_alloc_some _ _ _ (by rw [hg]; rfl)).trans hg)
    have hblk := bel_blk hb1 (by simp) (blk_new w (.cells #[.string s, .int .i64 0, .int .i64 0, .int .i64 0, .slice (some ⟨g, 0, none⟩) 1 1] 46))
    have k1 := blk_cell hblk 1
    have k2 := blk_cell hblk 2
    have k3 := blk_cell hblk 3
    have k4 := blk_cell hblk 4
    have HB1 : Hid (Below w.heap.size w w1) := Lib.hid (((Below.refl _ _).alloc (Nat.le_refl _) _).trans (hb1.mono (by simp)))
    have hs1 : w.heap.size < w1.heap.size := by have := hb1.size; simp at this; omega
    clear hb1 hblk
    go_wp2_with fail
    refine (short_ok 0 _ (by omega) (by omega)).mono ?_
    rintro e w2 ⟨rfl, rfl⟩
    go_wp2_with fail
    refine (short_ok 0 _ (by omega) (by omega)).mono ?_
    rintro e w2 ⟨rfl, rfl⟩
    go_wp2_with fail
    have hm := MapIs.made w1 encStr encUnit
    refine wp_loop_rounds 2 ?_
    rw [rounds_succ]
    have hcg' : (w1.alloc (.map #[] 0)).cell? ⟨g, 0, none⟩ = some (.string (sb [])) := (World.cell?_alloc_some _ _ _ (by rw [hcg]; rfl)).trans hcg
    go_wp2_with (first
      | (at_lookup; refine wpList_look_none _ rfl _ _ 129 rfl keyStr Try.underlying129 w1.heap.size rfl hm (sb []) rfl (zUnit _) rfl ?_)
      | (at_mapUpdate; refine wpList_mstore _ rfl _ _ _ 129 rfl keyStr Try.underlying129 w1.heap.size rfl (hm.alloc _) (sb []) rfl () rfl ?_; intro w3 hm3 hg3))
    rw [rounds_succ]
    go_wp2
    refine HR.out _ _ ⟨by rw [HZ.out]; rfl, ?_⟩
    have h1 : Below w.heap.size w ((w1.alloc (.map #[] 0)).alloc (.cells #[] 130)) := (HB1.out.alloc HB1.out.size _).alloc (by simp; omega) _
    exact h1.grown hg3 h1.size (fun k e => by cases e; omega)
  · have HZ : Hid ((if labErr (bl s) = 0 then (0 : Int) else 2) = 2) := Lib.hid (if_neg hz)
    have hz' : (labErr (bl s) != 0) = true := by simpa using hz
    generalize labErr (bl s) = e1 at *
    clear hz
    go_enter Try.func27, Try.ntmps27
    go_wp2_with fail
    refine (C _).out.mono ?_
    rintro e w1 ⟨rfl, hb1⟩
    go_wp2
    exact HR.out _ _ ⟨by rw [HZ.out]; rfl, ((Below.refl _ _).alloc (Nat.le_refl _) _).trans (hb1.mono (by simp))⟩
end Go.Proofs.Ytpijbdddegbjbaa
