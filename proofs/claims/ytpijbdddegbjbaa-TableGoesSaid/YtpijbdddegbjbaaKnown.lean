/- ostiarylaw20.TableKnown returns true. No condition. -/
import Derived.Test.YtpijbdddegbjbaaInts
namespace Go.Proofs.Ytpijbdddegbjbaa
open Go.RowKit Go.Proofs Go.Sort
theorem goesF_is {l : Tab} {o : Int} (h : o ∈ l.map (·.1)) (h2 : (clOf l o).2 = true) (h3 : ∀ y ∈ l.map (·.1), (clOf l y).2 = true → ¬ Ahead l y o) : goesF l = some o := (goesF_some l o).2 ⟨h, h2, h3⟩
abbrev K1 : Tab := [(5, (10, false))]
abbrev K2 : Tab := [(5, (10, false)), (3, (12, false))]
abbrev K3 : Tab := [(5, (10, true)), (3, (12, false))]
abbrev K4 : Tab := [(5, (10, true)), (3, (12, true))]
abbrev K5 : Tab := [(5, (14, true)), (3, (12, true))]
abbrev K6 : Tab := [(5, (14, true)), (4, (15, false))]
abbrev K7 : Tab := [(4, (15, false)), (9, (15, false))]
instance (l : Tab) (x y : Int) : Decidable (Ahead l x y) := by unfold Ahead; infer_instance
theorem kn5 : touchM 2 K4 5 14 = ((0, false, 0), K5) := by decide
theorem kn6 : touchM 2 K5 4 15 = ((3, true, 0), K6) := by
  have h : goesF K5 = some 3 := goesF_is (by decide) (by decide) (by decide)
  unfold touchM
  rw [h, show mget K5 4 = none by decide]
  decide
theorem kn7 : touchM 2 K6 9 15 = ((5, true, 0), K7) := by
  have h : goesF K6 = some 5 := goesF_is (by decide) (by decide) (by decide)
  unfold touchM
  rw [h, show mget K6 9 = none by decide]
  decide
theorem kn8 : touchM 2 K7 9 2 = ((0, false, 0), K7) := by decide
theorem kn9 : touchM 2 K7 9 (-1) = ((0, false, 2), K7) := by decide
theorem kns : sortedKeys K6 = [4, 5] := by
  unfold sortedKeys
  rw [sort_perm (show (K6.map (·.1)).Perm [4, 5] by decide)]
  apply List.mergeSort_of_pairwise
  decide
theorem wf2 {a b c d : Int} {x y : Bool} (ha : (Lit.int .i64 a).wf = true) (hb : (Lit.int .i64 b).wf = true) : IntsWf [(a, (c, x)), (b, (d, y))] := by
  intro p hp
  simp at hp
  rcases hp with rfl | rfl
  · exact ha
  · exact hb
set_option maxRecDepth 100000 in
set_option maxHeartbeats 4000000 in
theorem known20_ok (w : World) : Calls Try.prog 50 #[] w fun e w' => e = .returned (.bool true) ∧ Below w.heap.size w w' := by
  have hnew := new_two w
  refine hideR fun R' HR => ?_
  go_enter Try.func50, Try.ntmps50
  go_wp2_with fail
  refine hnew.mono ?_
  rintro e w1 ⟨tb, mb, rfl, h1, htb, hmb, hb1⟩
  clear hnew
  have hz := new_bad 0 w1 (by decide)
  go_wp2_with fail
  refine hz.mono ?_
  rintro e w1' ⟨rfl, hb1'⟩
  have h1' := h1.below hb1' (blk_lt h1.1) h1.2.1.lt
  have HB1 := Lib.hid (hb1.trans (hb1'.mono hb1.size))
  clear hz hb1 hb1' h1
  have t1 := touch_ok tb mb 2 [] 5 10 w1' h1' (by decide) (by intro p hp; simp at hp) (by decide)
  rw [awk1] at t1
  go_wp2_with fail
  refine t1.mono ?_
  rintro e w2 ⟨rfl, h2, hg2⟩
  have HB2 := Lib.hid (below_step HB1.out hg2 hmb)
  clear t1 h1' hg2
  have t2 := touch_ok tb mb 2 K1 3 12 w2 h2 (by decide) (by intro p hp; simp at hp; subst hp; decide) (by decide)
  rw [awk2] at t2
  go_wp2_with fail
  refine t2.mono ?_
  rintro e w3 ⟨rfl, h3, hg3⟩
  have HB3 := Lib.hid (below_step HB2.out hg3 hmb)
  clear t2 h2 hg3
  have t3 := idle_ok tb mb 2 K2 5 true w3 h3 (by decide) 10 false (by decide)
  rw [show mput K2 5 (10, true) = K3 by decide] at t3
  go_wp2_with fail
  refine t3.mono ?_
  rintro e w4 ⟨rfl, h4, hg4⟩
  have HB4 := Lib.hid (below_step HB3.out hg4 hmb)
  clear t3 h3 hg4
  have t4 := idle_ok tb mb 2 K3 3 true w4 h4 (by decide) 12 false (by decide)
  rw [show mput K3 3 (12, true) = K4 by decide] at t4
  go_wp2_with fail
  refine t4.mono ?_
  rintro e w5 ⟨rfl, h5, hg5⟩
  have HB5 := Lib.hid (below_step HB4.out hg5 hmb)
  clear t4 h4 hg5
  have t5 := touch_ok tb mb 2 K4 5 14 w5 h5 (by decide) (wf2 (by decide) (by decide)) (by decide)
  rw [kn5] at t5
  go_wp2_with fail
  refine t5.mono ?_
  rintro e w6 ⟨rfl, h6, hg6⟩
  have HB6 := Lib.hid (below_step HB5.out hg6 hmb)
  clear t5 h5 hg6
  have t6 := touch_ok tb mb 2 K5 4 15 w6 h6 (by decide) (wf2 (by decide) (by decide)) (by decide)
  rw [kn6] at t6
  simp only [touchIs] at t6
  go_wp2_with fail
  refine t6.mono ?_
  rintro e w7 ⟨rfl, h7, hg7⟩
  have HB7 := Lib.hid (below_step HB6.out hg7 hmb)
  clear t6 h6 hg7
  have t7 := all_ok tb mb 2 K6 w7 h7 (by decide) (wf2 (by decide) (by decide)) (by decide)
  rw [kns] at t7
  go_wp2_with fail
  refine t7.mono ?_
  rintro e w8 ⟨v, rfl, hrow, _, hb8⟩
  have h8 := h7.below hb8 (blk_lt h7.1) h7.2.1.lt
  have HB8 := Lib.hid (HB7.out.trans (hb8.mono HB7.out.size))
  have HI := Lib.hid (intsAt_of_row hrow).1
  have hlt := hrow.lt
  clear t7 h7 hrow hb8
  go_wp2_with fail
  have hI2 : IntsAt (w8.alloc (.cells #[.int .i64 4, .int .i64 5] 3)) v [4, 5] := HI.out.of_blk fun b hb => Below.heap_alloc _ _ b (hlt b hb).2
  have hI3 : IntsAt (w8.alloc (.cells #[.int .i64 4, .int .i64 5] 3)) (.slice (some ⟨w8.heap.size, 0, none⟩) 2 2) [4, 5] := ⟨_, 2, rfl, fun i hi => ⟨w8.heap.size, 0, rfl, by
    rw [blk_cell (blk_new _ _), Nat.zero_add]
    simp at hi
    rcases (show i = 0 ∨ i = 1 by omega) with rfl | rfl <;> rfl⟩⟩
  have hB9 : Below w8.heap.size w8 (w8.alloc (.cells #[.int .i64 4, .int .i64 5] 3)) := (Below.refl _ _).alloc (Nat.le_refl _) _
  have h9 := h8.below hB9 (blk_lt h8.1) h8.2.1.lt
  have HB9 := Lib.hid (HB8.out.trans (hB9.mono HB8.out.size))
  refine (sameInts_ok _ _ _ [4, 5] [4, 5] hI2 hI3 (by decide) (by decide)).mono ?_
  rintro e w10 ⟨rfl, hb10⟩
  have h10 := h9.below hb10 (blk_lt h9.1) h9.2.1.lt
  have HB10 := Lib.hid (HB9.out.trans (hb10.mono HB9.out.size))
  clear hI2 hI3 hB9 h9 hb10 h8 hlt
  have t8 := touch_ok tb mb 2 K6 9 15 w10 h10 (by decide) (wf2 (by decide) (by decide)) (by decide)
  rw [kn7] at t8
  simp only [touchIs] at t8
  go_wp2_with fail
  refine t8.mono ?_
  rintro e w11 ⟨rfl, h11, hg11⟩
  have HB11 := Lib.hid (below_step HB10.out hg11 hmb)
  clear t8 h10 hg11
  have t9 := when_ok tb mb 2 K7 9 w11 h11 (by decide)
  rw [show mget K7 9 = some (15, false) by decide] at t9
  go_wp2_with fail
  refine t9.mono ?_
  rintro e w12 ⟨rfl, hb12⟩
  have h12 := h11.below hb12 (blk_lt h11.1) h11.2.1.lt
  have HB12 := Lib.hid (HB11.out.trans (hb12.mono HB11.out.size))
  clear t9 h11 hb12
  have t10 := has_ok tb mb 2 K7 5 w12 h12 (by decide)
  rw [show mget K7 5 = none by decide] at t10
  go_wp2_with fail
  refine t10.mono ?_
  rintro e w13 ⟨rfl, hb13⟩
  have h13 := h12.below hb13 (blk_lt h12.1) h12.2.1.lt
  have HB13 := Lib.hid (HB12.out.trans (hb13.mono HB12.out.size))
  clear t10 h12 hb13
  have t11 := idle_no tb mb 2 K7 7 true w13 h13 (by decide) (by decide)
  go_wp2_with fail
  refine t11.mono ?_
  rintro e w14 ⟨rfl, hb14⟩
  have h14 := h13.below hb14 (blk_lt h13.1) h13.2.1.lt
  have HB14 := Lib.hid (HB13.out.trans (hb14.mono HB13.out.size))
  clear t11 h13 hb14
  have t12 := touch_ok tb mb 2 K7 9 2 w14 h14 (by decide) (wf2 (by decide) (by decide)) (by decide)
  rw [kn8] at t12
  go_wp2_with fail
  refine t12.mono ?_
  rintro e w15 ⟨rfl, h15, hg15⟩
  have HB15 := Lib.hid (below_step HB14.out hg15 hmb)
  clear t12 h14 hg15
  have t13 := when_ok tb mb 2 K7 9 w15 h15 (by decide)
  rw [show mget K7 9 = some (15, false) by decide] at t13
  go_wp2_with fail
  refine t13.mono ?_
  rintro e w16 ⟨rfl, hb16⟩
  have h16 := h15.below hb16 (blk_lt h15.1) h15.2.1.lt
  have HB16 := Lib.hid (HB15.out.trans (hb16.mono HB15.out.size))
  clear t13 h15 hb16
  have t14 := touch_ok tb mb 2 K7 9 (-1) w16 h16 (by decide) (wf2 (by decide) (by decide)) (by decide)
  rw [kn9] at t14
  simp only [touchIs] at t14
  go_wp2_with fail
  refine t14.mono ?_
  rintro e w17 ⟨rfl, h17, hg17⟩
  have HB17 := Lib.hid (below_step HB16.out hg17 hmb)
  clear t14 h16 hg17
  have t15 := awake20_ok w17
  go_wp2_with fail
  refine t15.mono ?_
  rintro e w18 ⟨rfl, hb18⟩
  go_wp2
  exact HR.out _ _ ⟨rfl, HB17.out.trans (hb18.mono HB17.out.size)⟩
end Go.Proofs.Ytpijbdddegbjbaa
