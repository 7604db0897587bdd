/- ostiarykit.SameRecs at equal records; sets.Less at the example. Condition: bounds on sizes. -/
import Derived.Test.YtpijbdddegbjbaaPart2
namespace Go.Proofs.Ytpijbdddegbjbaa
open Go.RowKit Go.Proofs Go.Sort
set_option maxRecDepth 100000 in
set_option maxHeartbeats 1000000 in
theorem sameRecs_eq (v u : Value) (l : List RecV) (w : World) (hv : RecsAt w v l) (hu : RecsAt w u l) (hn : l.length ≤ 1000000) :
    Calls Try.prog 103 #[v, u] w fun e w' => e = .returned (.bool true) ∧ Below w.heap.size w w' := by
  refine hideR fun R' HR => ?_
  have HV := Lib.hid hv
  have HU := Lib.hid hu
  obtain ⟨ao, ca, hv'⟩ : ∃ ao cap, v = .slice ao l.length cap := let ⟨a, b, e, _⟩ := hv; ⟨a, b, e⟩
  obtain ⟨bo, cb, hu'⟩ : ∃ ao cap, u = .slice ao l.length cap := let ⟨a, b, e, _⟩ := hu; ⟨a, b, e⟩
  subst hv' hu'
  clear hv hu
  go_enter Try.func103, Try.ntmps103
  go_wp2_with fail
  go_loopw [5] (fun i wr => ∃ k : Nat, k ≤ l.length ∧ i = .int .i64 k ∧ Hid (Below w.heap.size w wr)) (fun i _ => l.length - (intOf i).toNat)
  case atStart => exact ⟨0, Nat.zero_le _, rfl, Lib.hid (Below.refl _ _)⟩
  case round =>
    obtain ⟨k, hk, rfl, HW⟩ := hrel
    by_cases hlt : k < l.length
    · obtain ⟨b, o, cap', hv, hbl, hr⟩ := HV.out.open (by rintro rfl; simp at hlt)
      simp only [Value.slice.injEq, true_and] at hv
      obtain ⟨rfl, rfl⟩ := hv
      obtain ⟨b', o', cap'', hu, hbl', hr'⟩ := HU.out.open (by rintro rfl; simp at hlt)
      simp only [Value.slice.injEq, true_and] at hu
      obtain ⟨rfl, rfl⟩ := hu
      obtain ⟨x0, x1, x2, x3, x4⟩ := (hr k hlt).below HW.out hbl
      obtain ⟨y0, y1, y2, y3, y4⟩ := (hr' k hlt).below HW.out hbl'
      have hk1 : (k : Int) < (l.length : Int) := by omega
      have hk0 : (0 : Int) ≤ (k : Int) := by omega
      clear hr hr'
      go_wp2_with fail
      go_quiet (fail)
      go_wp2_with fail
      go_roundw
      case rel => exact ⟨k + 1, by omega, by go_num, Lib.hid (bel_drewN HW.out _)⟩
      case measure => simp [intOf]; omega
    · have hkl : k = l.length := by omega
      subst hkl
      have hlt' : ¬ ((l.length : Int) < (l.length : Int)) := by omega
      go_wp2_with fail
      exact HR.out _ _ ⟨rfl, HW.out⟩
set_option maxRecDepth 100000 in
set_option maxHeartbeats 1000000 in
theorem less_ok (n : ByteArray) (ty c : Int) (data : List ByteArray) (dv : Value) (w : World) (h : StrsAt w dv data) (hn : data.length ≤ 1000000) :
    Calls Try.prog 104 #[setV (n, ty, c, 3, data) dv, .int .i64 5] w fun e w' => (∃ g1 c1, e = .returned (.agg #[.string n, .int .i64 ty, .int .i64 c, .int .i64 0, .slice (some ⟨g1, 0, none⟩) data.length c1])) ∧ Below w.heap.size w w' := by
  refine hideR fun R' HR => ?_
  have hB : Below w.heap.size w ((w.alloc (.cells #[.string n, .int .i64 ty, .int .i64 c, .int .i64 3, dv] 46)).alloc (.cells #[.string (sb []), .int .i64 0, .int .i64 0, .int .i64 0, .slice none 0 0] 46)) := ((Below.refl _ _).alloc (Nat.le_refl _) _).alloc (by simp) _
  have HCl := Lib.hid (clone_ok dv data _ (h.below hB) (by omega))
  have hx : ((w.alloc (.cells #[.string n, .int .i64 ty, .int .i64 c, .int .i64 3, dv] 46)).alloc (.cells #[.string (sb []), .int .i64 0, .int .i64 0, .int .i64 0, .slice none 0 0] 46)).heap[w.heap.size]? = some (.cells #[.string n, .int .i64 ty, .int .i64 c, .int .i64 3, dv] 46 (0, 0)) := bel_blk (B := w.heap.size + 1) ((Below.refl _ _).alloc (by simp) _) (by omega) (blk_new _ _)
  obtain ⟨_, g, o, cap, rfl, _⟩ := h
  simp only [setV]
  have x4 := blk_cell hx 4
  go_enter Try.func104, Try.ntmps104
  go_wp2_with fail
  refine HCl.out.mono ?_
  rintro e w1 ⟨g1, cap1, rfl, _, _, _, b1⟩
  have hxc := bel_blk b1 (by simp; omega) hx
  have hy : ((w.alloc (.cells #[.string n, .int .i64 ty, .int .i64 c, .int .i64 3, .slice (some ⟨g, o, none⟩) data.length cap] 46)).alloc (.cells #[.string (sb []), .int .i64 0, .int .i64 0, .int .i64 0, .slice none 0 0] 46)).heap[w.heap.size + 1]? = some (.cells #[.string (sb []), .int .i64 0, .int .i64 0, .int .i64 0, .slice none 0 0] 46 (0, 0)) := by
    have := blk_new (w.alloc (.cells #[.string n, .int .i64 ty, .int .i64 c, .int .i64 3, .slice (some ⟨g, o, none⟩) data.length cap] 46)) (.cells #[.string (sb []), .int .i64 0, .int .i64 0, .int .i64 0, .slice none 0 0] 46)
    rwa [World.size_alloc] at this
  have hyc := bel_blk b1 (by simp) hy
  have c0 := blk_cell hxc 0
  have c1 := blk_cell hxc 1
  have c2 := blk_cell hxc 2
  have c3 := blk_cell hxc 3
  have c4 := blk_cell hxc 4
  have f3 := blk_free hxc 3 (.inr rfl)
  have f4 := blk_free hxc 4 (.inr rfl)
  have d0 := blk_cell hyc 0
  have d1 := blk_cell hyc 1
  have d2 := blk_cell hyc 2
  have d3 := blk_cell hyc 3
  have d4 := blk_cell hyc 4
  have e0 := blk_free hyc 0 (.inr rfl)
  have e1 := blk_free hyc 1 (.inr rfl)
  have e2 := blk_free hyc 2 (.inr rfl)
  have e3 := blk_free hyc 3 (.inr rfl)
  have e4 := blk_free hyc 4 (.inr rfl)
  have hbw := hB.trans (b1.mono hB.size)
  clear hx hy hxc hyc hB b1 x4
  go_wp2
  have hfin := (((((((hbw.setCell (p := ⟨w.heap.size, 4, none⟩) (Nat.le_refl _) (.slice (some ⟨g1, 0, none⟩) data.length cap1)).setCell (p := ⟨w.heap.size, 3, none⟩) (Nat.le_refl _) (.int .i64 (min 3 0))).setCell (p := ⟨w.heap.size + 1, 0, none⟩) (Nat.le_succ _) (.string n)).setCell (p := ⟨w.heap.size + 1, 1, none⟩) (Nat.le_succ _) (.int .i64 ty)).setCell (p := ⟨w.heap.size + 1, 2, none⟩) (Nat.le_succ _) (.int .i64 c)).setCell (p := ⟨w.heap.size + 1, 3, none⟩) (Nat.le_succ _) (.int .i64 (min 3 0))).setCell (p := ⟨w.heap.size + 1, 4, none⟩) (Nat.le_succ _) (.slice (some ⟨g1, 0, none⟩) data.length cap1))
  exact bodyPost_ret (v := .agg #[.string n, .int .i64 ty, .int .i64 c, .int .i64 (min 3 0), .slice (some ⟨g1, 0, none⟩) data.length cap1]) (by simp [results, Try.f104, go_sem, *]) rfl (HR.out _ _ ⟨⟨_, _, rfl⟩, hfin⟩)
end Go.Proofs.Ytpijbdddegbjbaa
