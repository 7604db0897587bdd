/- ostiarylaw22.SetsParts returns true. Condition: sizes as Fits says. -/
import Derived.Test.YtpijbdddegbjbaaKnow22
import Derived.Test.YtpijbdddegbjbaaTurned
namespace Go.Proofs.Ytpijbdddegbjbaa
open Go.RowKit Go.Proofs Go.Sort
theorem OwnOut.fits {W : World} {base : Nat} {ao : Option Addr} {n c : Nat} {L : List SV} (h : OwnOut W base (.slice ao n c) L) : L.length ≤ c := by
  rcases h.1.2 with ⟨_, h0⟩ | ⟨g, cap, cur, e, _, _, h1, _⟩
  · omega
  · cases e; exact h1
set_option maxRecDepth 100000 in
set_option maxHeartbeats 1500000 in
theorem parts_ok (v : Value) (l : List RecV) (w : World) (h : RecsAt w v l) (hf : Fits l) :
    Calls Try.prog 5 #[v] w fun e w' => e = .returned (.bool true) ∧ Below w.heap.size w w' := by
  refine hideR fun R' HR => ?_
  have HV := Lib.hid h
  obtain ⟨ao, cap, hv⟩ : ∃ ao cap, v = .slice ao l.length cap := let ⟨a, b, e, _⟩ := h; ⟨a, b, e⟩
  subst hv
  have HF := Lib.hid hf
  clear h hf
  go_enter Try.func5, Try.ntmps5
  go_wp2_with fail
  refine (known22_ok _).mono ?_
  rintro e w1 ⟨rfl, b1⟩
  go_wp2_with fail
  refine (longRecs_ok _ l 40 w1 (HV.out.below b1) HF.out (by decide) (by decide)).mono ?_
  rintro e w2 ⟨lb, rfl, hlb, b2⟩
  have b12 := b1.trans (b2.mono b1.size)
  cases lb with
  | true =>
    go_wp2
    exact HR.out _ _ ⟨rfl, b12⟩
  | false =>
    obtain ⟨hl40, hl2⟩ := hlb rfl
    have HS := Lib.hid (fits_name hl2)
    clear hlb hl2 HF
    have HB2 := Lib.hid b12
    clear b12 b1 b2
    go_wp2_with fail
    go_loopw [4] (fun i wr => ∃ k : Nat, k ≤ l.length ∧ i = .int .i64 k ∧ Hid (∀ j (h : j < l.length), j < k → labErr (bl l[j].1) = 0) ∧ Hid (Below w.heap.size w wr)) (fun i _ => l.length - (intOf i).toNat)
    case atStart => exact ⟨0, Nat.zero_le _, rfl, Lib.hid (fun j _ h => by omega), HB2⟩
    case round =>
      obtain ⟨k, hk, rfl, HN, HW⟩ := hrel
      by_cases hlt : k < l.length
      · obtain ⟨b, o, cap', hv, hblt, hrr⟩ := HV.out.open (by rintro rfl; simp at hlt)
        simp only [Value.slice.injEq, true_and] at hv
        obtain ⟨rfl, rfl⟩ := hv
        have hlt' : (k : Int) < (l.length : Int) := by omega
        obtain ⟨c0, _, _, _, _⟩ := (hrr k hlt).below HW.out hblt
        clear hrr
        go_wp2_with fail
        refine (setCheck_ok l[k].1 _ _ (HS.out _ (List.getElem_mem hlt)) (by first | exact blk_cell (blk_new _ _) 0 | exact cell_one_new _ _ _)).mono ?_
        rintro e wc ⟨rfl, bc⟩
        by_cases hz : labErr (bl l[k].1) = 0
        · rw [if_pos hz]
          go_wp2_with fail
          go_roundw
          case rel => exact ⟨k + 1, by omega, by go_num, Lib.hid (fun j hj hjk => by
            by_cases hjk' : j = k
            · subst hjk'; exact hz
            · exact HN.out j hj (by omega)), Lib.hid ((HW.out.alloc HW.out.size _).trans (bc.mono (by have := HW.out.size; simp; omega)))⟩
          case measure => simp [intOf]; omega
        · rw [if_neg hz]
          go_wp2_with fail
          exact HR.out _ _ ⟨rfl, (HW.out.alloc HW.out.size _).trans (bc.mono (by have := HW.out.size; simp; omega))⟩
      · have hkl : k = l.length := by omega
        subst hkl
        have HN' : Hid (∀ r ∈ l, labErr (bl r.1) = 0) := Lib.hid (fun r hr => by
          obtain ⟨j, hj, rfl⟩ := List.mem_iff_getElem.1 hr
          exact HN.out j hj hj)
        clear HN
        have hlt' : ¬ ((l.length : Int) < (l.length : Int)) := by omega
        go_wp2_with fail
        refine (group_ok _ l wr (HV.out.below HW.out) (by omega) (fun r hr => ⟨HS.out r hr, HN'.out r hr⟩)).mono ?_
        rintro e w4 ⟨xv, LA, rfl, hOA, hLA, hB4⟩
        have hSA := hOA.sets
        rw [hLA] at hSA
        obtain ⟨xa, xc, hxv⟩ := hSA.len
        subst hxv
        have hfit := hOA.fits
        have hLn : LA.length = (groupM l).length := by rw [← hLA, List.length_map]
        rw [hLn] at hfit
        have HG := Lib.hid (grouped_ok l)
        have hXn : ∀ s ∈ groupM l, s.1.size ≤ 1000000000 ∧ s.2.2.2.2.length ≤ 40 ∧ labErr (bl s.1) = 0 := fun s hs => by
          obtain ⟨r, hr, e1⟩ := HG.out.named s hs
          have h1 := HS.out r hr
          have h3 := HN'.out r hr
          rw [e1] at h1 h3
          have h2 := group_data_len l l.length (Nat.le_refl _) s (by rw [List.take_length]; exact hs)
          exact ⟨h1, by omega, h3⟩
        have hXl : (groupM l).length ≤ 40 := by
          have := group_len l l.length (Nat.le_refl _)
          rw [List.take_length] at this
          omega
        have HBB : Hid (Below w.heap.size w w4) := Lib.hid (HW.out.trans (hB4.mono HW.out.size))
        have HV4 := Lib.hid ((HV.out.below HW.out).below hB4)
        generalize groupM l = X at *
        have HXN := Lib.hid hXn
        have HSA := Lib.hid hSA
        clear hOA hLA hLn hB4 hXn hSA HW HV HB2
        go_wp2_with fail
        go_loopw [6] (fun i wr => ∃ k : Nat, k ≤ l.length ∧ i = .int .i64 k ∧ Hid (Below w4.heap.size w4 wr)) (fun i _ => l.length - (intOf i).toNat)
        case atStart => exact ⟨0, Nat.zero_le _, rfl, Lib.hid (Below.refl _ _)⟩
        case round =>
          obtain ⟨i, hi, rfl, HW3⟩ := hrel
          by_cases hil : i < l.length
          · obtain ⟨b, o, cap', hv, hblt, hrr⟩ := HV4.out.open (by rintro rfl; simp at hil)
            simp only [Value.slice.injEq, true_and] at hv
            obtain ⟨rfl, rfl⟩ := hv
            have hil' : (i : Int) < (l.length : Int) := by omega
            have hi0 : (0 : Int) ≤ (i : Int) := by omega
            have HRI := Lib.hid (hrr i hil)
            have HONE := Lib.hid (inSet_one HG.out HN'.out (List.getElem_mem hil))
            have HYES := Lib.hid (fun (s : SetV) (hs : s ∈ X) => inSet_yes HG.out HN'.out (List.getElem_mem hil) hs)
            have HLN := Lib.hid (HS.out _ (List.getElem_mem hil))
            clear hrr
            generalize l[i] = r at HRI HONE HYES HLN
            go_wp2_with fail
            go_loopw [7, 8] (fun nv kv wr => ∃ (n k : Nat), k ≤ X.length ∧ n ≤ k ∧ nv = .int .i64 n ∧ kv = .int .i64 k ∧ Hid (n = (X.take k).countP (inSet r)) ∧ Hid (Below w4.heap.size w4 wr)) (fun _ kv _ => X.length - (intOf kv).toNat)
            case atStart => exact ⟨0, 0, Nat.zero_le _, Nat.le_refl _, rfl, rfl, Lib.hid (by simp), HW3⟩
            case round =>
              obtain ⟨n, k, hk, hnk, rfl, rfl, HN, HW4⟩ := hrel
              by_cases hkl : k < X.length
              · obtain ⟨xb, xo, xc', dv, hxv, hxl, hxr⟩ := HSA.out.open (by rintro rfl; simp at hkl)
                simp only [Value.slice.injEq, true_and] at hxv
                obtain ⟨rfl, rfl⟩ := hxv
                have hkl' : (k : Int) < (X.length : Int) := by omega
                have hk0 : (0 : Int) ≤ (k : Int) := by omega
                obtain ⟨⟨x0, x1, x2, x3, x4⟩, hxs⟩ := hxr k hkl
                obtain ⟨r0, r1, r2, r3, r4⟩ := HRI.out
                have hXK := HXN.out _ (List.getElem_mem hkl)
                obtain ⟨dg, dq, dc, hdv⟩ : ∃ dg dq dc, dv k = .slice (some ⟨dg, dq, none⟩) X[k].2.2.2.2.length dc := let ⟨_, g, o, c, e, _⟩ := hxs; ⟨g, o, c, e⟩
                rw [hdv] at hxs x4
                have HK := fun (w' : World) (hb : Below w4.heap.size w4 w') => (⟨bel_cell hb hblt r0, bel_cell hb hblt r1, bel_cell hb hblt r2, bel_cell hb hblt r3, bel_cell hb hblt r4, bel_cell hb hxl x0, bel_cell hb hxl x1, bel_cell hb hxl x2, bel_cell hb hxl x3, bel_cell hb hxl x4⟩ : (w'.cell? ⟨b, o + i * 5, none⟩ = some (.string r.1) ∧ w'.cell? ⟨b, o + i * 5 + 1, none⟩ = some (.int .i64 r.2.1) ∧ w'.cell? ⟨b, o + i * 5 + 2, none⟩ = some (.int .i64 r.2.2.1) ∧ w'.cell? ⟨b, o + i * 5 + 3, none⟩ = some (.int .i64 r.2.2.2.1) ∧ w'.cell? ⟨b, o + i * 5 + 4, none⟩ = some (.string r.2.2.2.2) ∧ w'.cell? ⟨xb, xo + k * 5, none⟩ = some (.string X[k].1) ∧ w'.cell? ⟨xb, xo + k * 5 + 1, none⟩ = some (.int .i64 X[k].2.1) ∧ w'.cell? ⟨xb, xo + k * 5 + 2, none⟩ = some (.int .i64 X[k].2.2.1) ∧ w'.cell? ⟨xb, xo + k * 5 + 3, none⟩ = some (.int .i64 X[k].2.2.2.1) ∧ w'.cell? ⟨xb, xo + k * 5 + 4, none⟩ = some (.slice (some ⟨dg, dq, none⟩) X[k].2.2.2.2.length dc)))
                have SM := fun (W' : World) (hb : Below w4.heap.size w4 W') => Lib.hid (setSame_ok (r.1, r.2.1, r.2.2.1, 0, X[k].2.2.2.2) X[k] (.slice (some ⟨dg, dq, none⟩) X[k].2.2.2.2.length dc) (.slice (some ⟨dg, dq, none⟩) X[k].2.2.2.2.length dc) W' HLN.out hXK.1 (hxs.below hb) (hxs.below hb) (by show X[k].2.2.2.2.length ≤ _; omega) (by omega))
                have HM := fun (W' : World) (hb : Below w4.heap.size w4 W') => Lib.hid (hasT_ok (.slice (some ⟨dg, dq, none⟩) X[k].2.2.2.2.length dc) X[k].2.2.2.2 r.2.2.2.2 W' (hxs.texts.below hb) (by omega))
                have HKH := Lib.hid HK
                have SMH := Lib.hid SM
                have HMH := Lib.hid HM
                have HCN := Lib.hid (countP_snoc (inSet r) X k hkl)
                have HYK := Lib.hid (HYES.out _ (List.getElem_mem hkl))
                clear HK SM HM x0 x1 x2 x3 x4 r0 r1 r2 r3 r4 hxs hxr hXK hdv
                go_upto_region 17 with fail
                go_cut [9] from 40 to 100 (fun s9 wx => ∃ ob : Nat, s9 = .pointer (some ⟨ob, 0, none⟩) ∧ wx.heap[ob]? = some (.cells #[.string r.1, .int .i64 r.2.1, .int .i64 r.2.2.1, .int .i64 0, .slice (some ⟨dg, dq, none⟩) X[k].2.2.2.2.length dc] 46 (0, 0)) ∧ Hid (Below w4.heap.size w4 wx))
                case first =>
                  refine wp_region_noPanic ?_
                  refine wp_region_heldN 23 rfl (S := fun w' => w'.cell? ⟨b, o + i * 5, none⟩ = some (.string r.1) ∧ w'.cell? ⟨b, o + i * 5 + 1, none⟩ = some (.int .i64 r.2.1) ∧ w'.cell? ⟨b, o + i * 5 + 2, none⟩ = some (.int .i64 r.2.2.1) ∧ w'.cell? ⟨b, o + i * 5 + 3, none⟩ = some (.int .i64 r.2.2.2.1) ∧ w'.cell? ⟨b, o + i * 5 + 4, none⟩ = some (.string r.2.2.2.2) ∧ w'.cell? ⟨xb, xo + k * 5, none⟩ = some (.string X[k].1) ∧ w'.cell? ⟨xb, xo + k * 5 + 1, none⟩ = some (.int .i64 X[k].2.1) ∧ w'.cell? ⟨xb, xo + k * 5 + 2, none⟩ = some (.int .i64 X[k].2.2.1) ∧ w'.cell? ⟨xb, xo + k * 5 + 3, none⟩ = some (.int .i64 X[k].2.2.2.1) ∧ w'.cell? ⟨xb, xo + k * 5 + 4, none⟩ = some (.slice (some ⟨dg, dq, none⟩) X[k].2.2.2.2.length dc)) (by kernel_rfl) (HKH.out _ HW4.out.drew) (fun hHeld => ?_)
                  refine take_on 0 (some 46) (v := ?_) rfl (by rfl) (by kernel_rfl) (by kernel_rfl) (by kernel_rfl) (fun _ _ _ h => h) (by rfl) ?_ (by assumption) ?_
                  rotate_left
                  · (intro w hSw; (try dsimp only at hSw); go_simp; try with_reducible rfl)
                  try simp only [Act.put, List.setIfInBounds_toArray, List.set_cons_zero, List.set_cons_succ]
                  refine take_on 1 (some 47) (v := ?_) rfl (by rfl) (by kernel_rfl) (by kernel_rfl) (by kernel_rfl) (fun _ _ _ h => h) (by rfl) ?_ (by assumption) ?_
                  rotate_left
                  · (intro w hSw; (try dsimp only at hSw); go_simp; try with_reducible rfl)
                  try simp only [Act.put, List.setIfInBounds_toArray, List.set_cons_zero, List.set_cons_succ]
                  refine take_on 2 (some 48) (v := ?_) rfl (by rfl) (by kernel_rfl) (by kernel_rfl) (by kernel_rfl) (fun _ _ _ h => h) (by rfl) ?_ (by assumption) ?_
                  rotate_left
                  · (intro w hSw; (try dsimp only at hSw); go_simp; try with_reducible rfl)
                  try simp only [Act.put, List.setIfInBounds_toArray, List.set_cons_zero, List.set_cons_succ]
                  refine take_on 3 (some 49) (v := ?_) rfl (by rfl) (by kernel_rfl) (by kernel_rfl) (by kernel_rfl) (fun _ _ _ h => h) (by rfl) ?_ (by assumption) ?_
                  rotate_left
                  · (intro w hSw; (try dsimp only at hSw); go_simp; try with_reducible rfl)
                  try simp only [Act.put, List.setIfInBounds_toArray, List.set_cons_zero, List.set_cons_succ]
                  refine take_on 4 (some 50) (v := ?_) rfl (by rfl) (by kernel_rfl) (by kernel_rfl) (by kernel_rfl) (fun _ _ _ h => h) (by rfl) ?_ (by assumption) ?_
                  rotate_left
                  · (intro w hSw; (try dsimp only at hSw); go_simp; try with_reducible rfl)
                  try simp only [Act.put, List.setIfInBounds_toArray, List.set_cons_zero, List.set_cons_succ]
                  refine take_on 5 (some 51) (v := ?_) rfl (by rfl) (by kernel_rfl) (by kernel_rfl) (by kernel_rfl) (fun _ _ _ h => h) (by rfl) ?_ (by assumption) ?_
                  rotate_left
                  · (intro w hSw; (try dsimp only at hSw); go_simp; try with_reducible rfl)
                  try simp only [Act.put, List.setIfInBounds_toArray, List.set_cons_zero, List.set_cons_succ]
                  refine take_on 6 (some 52) (v := ?_) rfl (by rfl) (by kernel_rfl) (by kernel_rfl) (by kernel_rfl) (fun _ _ _ h => h) (by rfl) ?_ (by assumption) ?_
                  rotate_left
                  · (intro w hSw; (try dsimp only at hSw); go_simp; try with_reducible rfl)
                  try simp only [Act.put, List.setIfInBounds_toArray, List.set_cons_zero, List.set_cons_succ]
                  refine take_on 7 (some 53) (v := ?_) rfl (by rfl) (by kernel_rfl) (by kernel_rfl) (by kernel_rfl) (fun _ _ _ h => h) (by rfl) ?_ (by assumption) ?_
                  rotate_left
                  · (intro w hSw; (try dsimp only at hSw); go_simp; try with_reducible rfl)
                  try simp only [Act.put, List.setIfInBounds_toArray, List.set_cons_zero, List.set_cons_succ]
                  refine take_on 8 (some 54) (v := ?_) rfl (by rfl) (by kernel_rfl) (by kernel_rfl) (by kernel_rfl) (fun _ _ _ h => h) (by rfl) ?_ (by assumption) ?_
                  rotate_left
                  · (intro w hSw; (try dsimp only at hSw); go_simp; try with_reducible rfl)
                  try simp only [Act.put, List.setIfInBounds_toArray, List.set_cons_zero, List.set_cons_succ]
                  refine take_on 9 (some 55) (v := ?_) rfl (by rfl) (by kernel_rfl) (by kernel_rfl) (by kernel_rfl) (fun _ _ _ h => h) (by rfl) ?_ (by assumption) ?_
                  rotate_left
                  · (intro w hSw; (try dsimp only at hSw); go_simp; try with_reducible rfl)
                  try simp only [Act.put, List.setIfInBounds_toArray, List.set_cons_zero, List.set_cons_succ]
                  refine take_on 10 (some 56) (v := ?_) rfl (by rfl) (by kernel_rfl) (by kernel_rfl) (by kernel_rfl) (fun _ _ _ h => h) (by rfl) ?_ (by assumption) ?_
                  rotate_left
                  · (intro w hSw; (try dsimp only at hSw); go_simp; try with_reducible rfl)
                  try simp only [Act.put, List.setIfInBounds_toArray, List.set_cons_zero, List.set_cons_succ]
                  refine take_on 11 (some 57) (v := ?_) rfl (by rfl) (by kernel_rfl) (by kernel_rfl) (by kernel_rfl) (fun _ _ _ h => h) (by rfl) ?_ (by assumption) ?_
                  rotate_left
                  · (intro w hSw; (try dsimp only at hSw); go_simp; try with_reducible rfl)
                  try simp only [Act.put, List.setIfInBounds_toArray, List.set_cons_zero, List.set_cons_succ]
                  refine take_on 12 (some 58) (v := ?_) rfl (by rfl) (by kernel_rfl) (by kernel_rfl) (by kernel_rfl) (fun _ _ _ h => h) (by rfl) ?_ (by assumption) ?_
                  rotate_left
                  · (intro w hSw; (try dsimp only at hSw); go_simp; try with_reducible rfl)
                  try simp only [Act.put, List.setIfInBounds_toArray, List.set_cons_zero, List.set_cons_succ]
                  refine take_on 13 (some 59) (v := ?_) rfl (by rfl) (by kernel_rfl) (by kernel_rfl) (by kernel_rfl) (fun _ _ _ h => h) (by rfl) ?_ (by assumption) ?_
                  rotate_left
                  · (intro w hSw; (try dsimp only at hSw); go_simp; try with_reducible rfl)
                  try simp only [Act.put, List.setIfInBounds_toArray, List.set_cons_zero, List.set_cons_succ]
                  refine take_on 14 (some 60) (v := ?_) rfl (by rfl) (by kernel_rfl) (by kernel_rfl) (by kernel_rfl) (fun _ _ _ h => h) (by rfl) ?_ (by assumption) ?_
                  rotate_left
                  · (intro w hSw; (try dsimp only at hSw); go_simp; try with_reducible rfl)
                  try simp only [Act.put, List.setIfInBounds_toArray, List.set_cons_zero, List.set_cons_succ]
                  refine take_on 15 (some 61) (v := ?_) rfl (by rfl) (by kernel_rfl) (by kernel_rfl) (by kernel_rfl) (fun _ _ _ h => h) (by rfl) ?_ (by assumption) ?_
                  rotate_left
                  · (intro w hSw; (try dsimp only at hSw); go_simp; try with_reducible rfl)
                  try simp only [Act.put, List.setIfInBounds_toArray, List.set_cons_zero, List.set_cons_succ]
                  refine take_on 16 (some 62) (v := ?_) rfl (by rfl) (by kernel_rfl) (by kernel_rfl) (by kernel_rfl) (fun _ _ _ h => h) (by rfl) ?_ (by assumption) ?_
                  rotate_left
                  · (intro w hSw; (try dsimp only at hSw); go_simp; try with_reducible rfl)
                  try simp only [Act.put, List.setIfInBounds_toArray, List.set_cons_zero, List.set_cons_succ]
                  refine take_on 17 (some 63) (v := ?_) rfl (by rfl) (by kernel_rfl) (by kernel_rfl) (by kernel_rfl) (fun _ _ _ h => h) (by rfl) ?_ (by assumption) ?_
                  rotate_left
                  · (intro w hSw; (try dsimp only at hSw); go_simp; try with_reducible rfl)
                  try simp only [Act.put, List.setIfInBounds_toArray, List.set_cons_zero, List.set_cons_succ]
                  refine take_on 18 (some 64) (v := ?_) rfl (by rfl) (by kernel_rfl) (by kernel_rfl) (by kernel_rfl) (fun _ _ _ h => h) (by rfl) ?_ (by assumption) ?_
                  rotate_left
                  · (intro w hSw; (try dsimp only at hSw); go_simp; try with_reducible rfl)
                  try simp only [Act.put, List.setIfInBounds_toArray, List.set_cons_zero, List.set_cons_succ]
                  refine take_on 19 (some 65) (v := ?_) rfl (by rfl) (by kernel_rfl) (by kernel_rfl) (by kernel_rfl) (fun _ _ _ h => h) (by rfl) ?_ (by assumption) ?_
                  rotate_left
                  · (intro w hSw; (try dsimp only at hSw); go_simp; try with_reducible rfl)
                  try simp only [Act.put, List.setIfInBounds_toArray, List.set_cons_zero, List.set_cons_succ]
                  refine take_on 20 (some 66) (v := ?_) rfl (by rfl) (by kernel_rfl) (by kernel_rfl) (by kernel_rfl) (fun _ _ _ h => h) (by rfl) ?_ (by assumption) ?_
                  rotate_left
                  · (intro w hSw; (try dsimp only at hSw); go_simp; try with_reducible rfl)
                  try simp only [Act.put, List.setIfInBounds_toArray, List.set_cons_zero, List.set_cons_succ]
                  refine wpAnyH_ready (rs := [21]) (by kernel_rfl) (by simp) ?_
                  refine AllReadyH.cons (o := _) rfl (fun K hK => ?_) AllReadyH.nil
                  go_simp
                  refine hK.out _ _ (HKH.out _ (HW4.out.alloc HW4.out.size _).drew) (fun hHeld2 => ?_)
                  clear hK K
                  try simp only [Act.put, List.setIfInBounds_toArray, List.set_cons_zero, List.set_cons_succ]
                  refine wpAnyH_ready (rs := [22]) (by kernel_rfl) (by simp) ?_
                  refine AllReadyH.cons (o := _) rfl (fun K hK => ?_) AllReadyH.nil
                  have HBS := Lib.hid (HW4.out.alloc HW4.out.size (.cells #[.string r.1, .int .i64 r.2.1, .int .i64 r.2.2.1, .int .i64 0, .slice (some ⟨dg, dq, none⟩) X[k].2.2.2.2.length dc] 46)).drew
                  have HKB := Lib.hid (blk_new wr (.cells #[.string r.1, .int .i64 r.2.1, .int .i64 r.2.2.1, .int .i64 0, .slice (some ⟨dg, dq, none⟩) X[k].2.2.2.2.length dc] 46))
                  go_simp
                  refine hK.out _ _ (HKH.out _ HBS.out) (fun hHeld3 => ?_)
                  clear hK K
                  try simp only [Act.put, List.setIfInBounds_toArray, List.set_cons_zero, List.set_cons_succ]
                  refine wpAnyH_done (by kernel_rfl) ?_ _
                  refine NoPanic.normal ?_
                  go_wp2_with fail
                  go_meet
                  case rel => exact ⟨wr.heap.size, rfl, HKB.out, HBS⟩
                case rest =>
                  obtain ⟨ob, rfl, hob, HWC⟩ := hcut
                  have o0 := blk_cell hob 0
                  have o1 := blk_cell hob 1
                  have o2 := blk_cell hob 2
                  have o3 := blk_cell hob 3
                  have o4 := blk_cell hob 4
                  have HK2 := fun (w' : World) (hb : Below wc.heap.size wc w') => (⟨bel_cell hb (cell_lt o0) o0, bel_cell hb (cell_lt o1) o1, bel_cell hb (cell_lt o2) o2, bel_cell hb (cell_lt o3) o3, bel_cell hb (cell_lt o4) o4, HKH.out _ (HWC.out.trans (hb.mono HWC.out.size))⟩ : (w'.cell? ⟨ob, 0, none⟩ = some (.string r.1) ∧ w'.cell? ⟨ob, 1, none⟩ = some (.int .i64 r.2.1) ∧ w'.cell? ⟨ob, 2, none⟩ = some (.int .i64 r.2.2.1) ∧ w'.cell? ⟨ob, 3, none⟩ = some (.int .i64 0) ∧ w'.cell? ⟨ob, 4, none⟩ = some (.slice (some ⟨dg, dq, none⟩) X[k].2.2.2.2.length dc) ∧ w'.cell? ⟨b, o + i * 5, none⟩ = some (.string r.1) ∧ w'.cell? ⟨b, o + i * 5 + 1, none⟩ = some (.int .i64 r.2.1) ∧ w'.cell? ⟨b, o + i * 5 + 2, none⟩ = some (.int .i64 r.2.2.1) ∧ w'.cell? ⟨b, o + i * 5 + 3, none⟩ = some (.int .i64 r.2.2.2.1) ∧ w'.cell? ⟨b, o + i * 5 + 4, none⟩ = some (.string r.2.2.2.2) ∧ w'.cell? ⟨xb, xo + k * 5, none⟩ = some (.string X[k].1) ∧ w'.cell? ⟨xb, xo + k * 5 + 1, none⟩ = some (.int .i64 X[k].2.1) ∧ w'.cell? ⟨xb, xo + k * 5 + 2, none⟩ = some (.int .i64 X[k].2.2.1) ∧ w'.cell? ⟨xb, xo + k * 5 + 3, none⟩ = some (.int .i64 X[k].2.2.2.1) ∧ w'.cell? ⟨xb, xo + k * 5 + 4, none⟩ = some (.slice (some ⟨dg, dq, none⟩) X[k].2.2.2.2.length dc)))
                  have HK2H := Lib.hid HK2
                  clear HK2 o0 o1 o2 o3 o4 hob
                  cases hs : sameSet (r.1, r.2.1, r.2.2.1, 0, X[k].2.2.2.2) X[k] with
                  | false =>
                    have HN2 : Hid (n = (X.take (k + 1)).countP (inSet r)) := Lib.hid (by rw [HCN.out, inSet_no hs, if_neg (by decide), ← HN.out]; rfl)
                    rw [hs] at SMH
                    clear hs
                    go_upto_region 18 with fail
                    refine wp_region_noPanic ?_
                    refine wp_region_heldN 32 rfl (S := fun w' => w'.cell? ⟨ob, 0, none⟩ = some (.string r.1) ∧ w'.cell? ⟨ob, 1, none⟩ = some (.int .i64 r.2.1) ∧ w'.cell? ⟨ob, 2, none⟩ = some (.int .i64 r.2.2.1) ∧ w'.cell? ⟨ob, 3, none⟩ = some (.int .i64 0) ∧ w'.cell? ⟨ob, 4, none⟩ = some (.slice (some ⟨dg, dq, none⟩) X[k].2.2.2.2.length dc) ∧ w'.cell? ⟨b, o + i * 5, none⟩ = some (.string r.1) ∧ w'.cell? ⟨b, o + i * 5 + 1, none⟩ = some (.int .i64 r.2.1) ∧ w'.cell? ⟨b, o + i * 5 + 2, none⟩ = some (.int .i64 r.2.2.1) ∧ w'.cell? ⟨b, o + i * 5 + 3, none⟩ = some (.int .i64 r.2.2.2.1) ∧ w'.cell? ⟨b, o + i * 5 + 4, none⟩ = some (.string r.2.2.2.2) ∧ w'.cell? ⟨xb, xo + k * 5, none⟩ = some (.string X[k].1) ∧ w'.cell? ⟨xb, xo + k * 5 + 1, none⟩ = some (.int .i64 X[k].2.1) ∧ w'.cell? ⟨xb, xo + k * 5 + 2, none⟩ = some (.int .i64 X[k].2.2.1) ∧ w'.cell? ⟨xb, xo + k * 5 + 3, none⟩ = some (.int .i64 X[k].2.2.2.1) ∧ w'.cell? ⟨xb, xo + k * 5 + 4, none⟩ = some (.slice (some ⟨dg, dq, none⟩) X[k].2.2.2.2.length dc)) (by kernel_rfl) (HK2H.out _ (Below.refl _ _).drew) (fun hHeld => ?_)
                    refine take_on 0 (some 67) (v := ?_) rfl (by rfl) (by kernel_rfl) (by kernel_rfl) (by kernel_rfl) (fun _ _ _ h => h) (by rfl) ?_ (by assumption) ?_
                    rotate_left
                    · (intro w hSw; (try dsimp only at hSw); go_simp; try with_reducible rfl)
                    try simp only [Act.put, List.setIfInBounds_toArray, List.set_cons_zero, List.set_cons_succ]
                    refine take_on 1 (some 68) (v := ?_) rfl (by rfl) (by kernel_rfl) (by kernel_rfl) (by kernel_rfl) (fun _ _ _ h => h) (by rfl) ?_ (by assumption) ?_
                    rotate_left
                    · (intro w hSw; (try dsimp only at hSw); go_simp; try with_reducible rfl)
                    try simp only [Act.put, List.setIfInBounds_toArray, List.set_cons_zero, List.set_cons_succ]
                    refine take_on 2 (some 69) (v := ?_) rfl (by rfl) (by kernel_rfl) (by kernel_rfl) (by kernel_rfl) (fun _ _ _ h => h) (by rfl) ?_ (by assumption) ?_
                    rotate_left
                    · (intro w hSw; (try dsimp only at hSw); go_simp; try with_reducible rfl)
                    try simp only [Act.put, List.setIfInBounds_toArray, List.set_cons_zero, List.set_cons_succ]
                    refine take_on 3 (some 70) (v := ?_) rfl (by rfl) (by kernel_rfl) (by kernel_rfl) (by kernel_rfl) (fun _ _ _ h => h) (by rfl) ?_ (by assumption) ?_
                    rotate_left
                    · (intro w hSw; (try dsimp only at hSw); go_simp; try with_reducible rfl)
                    try simp only [Act.put, List.setIfInBounds_toArray, List.set_cons_zero, List.set_cons_succ]
                    refine take_on 4 (some 71) (v := ?_) rfl (by rfl) (by kernel_rfl) (by kernel_rfl) (by kernel_rfl) (fun _ _ _ h => h) (by rfl) ?_ (by assumption) ?_
                    rotate_left
                    · (intro w hSw; (try dsimp only at hSw); go_simp; try with_reducible rfl)
                    try simp only [Act.put, List.setIfInBounds_toArray, List.set_cons_zero, List.set_cons_succ]
                    refine wpAnyH_ready (rs := [5]) (by kernel_rfl) (by simp) ?_
                    refine AllReadyH.cons (o := _) rfl (fun K hK => ?_) AllReadyH.nil
                    go_simp
                    go_wp2_with fail
                    refine (SMH.out _ HWC.out.drew).out.mono ?_
                    rintro e w6 ⟨rfl, xb6⟩
                    have hb1 : Below wc.heap.size wc w6 := (Below.refl _ _).drew.trans xb6
                    go_simp
                    refine hK.out _ _ (HK2H.out _ hb1) (fun hHeld2 => ?_)
                    clear hK K
                    try simp only [Act.put, List.setIfInBounds_toArray, List.set_cons_zero, List.set_cons_succ]
                    refine take_on 6 (some 73) (v := ?_) rfl (by rfl) (by kernel_rfl) (by kernel_rfl) (by kernel_rfl) (fun _ _ _ h => h) (by rfl) ?_ (by assumption) ?_
                    rotate_left
                    · (intro w hSw; (try dsimp only at hSw); go_simp; try with_reducible rfl)
                    try simp only [Act.put, List.setIfInBounds_toArray, List.set_cons_zero, List.set_cons_succ]
                    refine take_off 7 (some 74) rfl (by rfl) (by kernel_rfl) (by kernel_rfl) (by kernel_rfl) (fun _ _ _ h => h) (by rfl) (by assumption) ?_
                    try simp only [Act.put, List.setIfInBounds_toArray, List.set_cons_zero, List.set_cons_succ]
                    refine take_off 8 (some 75) rfl (by rfl) (by kernel_rfl) (by kernel_rfl) (by kernel_rfl) (fun _ _ _ h => h) (by rfl) (by assumption) ?_
                    try simp only [Act.put, List.setIfInBounds_toArray, List.set_cons_zero, List.set_cons_succ]
                    refine take_off 9 (some 76) rfl (by rfl) (by kernel_rfl) (by kernel_rfl) (by kernel_rfl) (fun _ _ _ h => h) (by rfl) (by assumption) ?_
                    try simp only [Act.put, List.setIfInBounds_toArray, List.set_cons_zero, List.set_cons_succ]
                    refine take_off 10 (some 77) rfl (by rfl) (by kernel_rfl) (by kernel_rfl) (by kernel_rfl) (fun _ _ _ h => h) (by rfl) (by assumption) ?_
                    try simp only [Act.put, List.setIfInBounds_toArray, List.set_cons_zero, List.set_cons_succ]
                    refine take_off 11 (some 78) rfl (by rfl) (by kernel_rfl) (by kernel_rfl) (by kernel_rfl) (fun _ _ _ h => h) (by rfl) (by assumption) ?_
                    try simp only [Act.put, List.setIfInBounds_toArray, List.set_cons_zero, List.set_cons_succ]
                    refine take_off 12 (some 79) rfl (by rfl) (by kernel_rfl) (by kernel_rfl) (by kernel_rfl) (fun _ _ _ h => h) (by rfl) (by assumption) ?_
                    try simp only [Act.put, List.setIfInBounds_toArray, List.set_cons_zero, List.set_cons_succ]
                    refine take_off 13 (some 80) rfl (by rfl) (by kernel_rfl) (by kernel_rfl) (by kernel_rfl) (fun _ _ _ h => h) (by rfl) (by assumption) ?_
                    try simp only [Act.put, List.setIfInBounds_toArray, List.set_cons_zero, List.set_cons_succ]
                    refine take_off 14 (some 81) rfl (by rfl) (by kernel_rfl) (by kernel_rfl) (by kernel_rfl) (fun _ _ _ h => h) (by rfl) (by assumption) ?_
                    try simp only [Act.put, List.setIfInBounds_toArray, List.set_cons_zero, List.set_cons_succ]
                    refine take_off 15 (some 82) rfl (by rfl) (by kernel_rfl) (by kernel_rfl) (by kernel_rfl) (fun _ _ _ h => h) (by rfl) (by assumption) ?_
                    try simp only [Act.put, List.setIfInBounds_toArray, List.set_cons_zero, List.set_cons_succ]
                    refine take_off 16 (some 83) rfl (by rfl) (by kernel_rfl) (by kernel_rfl) (by kernel_rfl) (fun _ _ _ h => h) (by rfl) (by assumption) ?_
                    try simp only [Act.put, List.setIfInBounds_toArray, List.set_cons_zero, List.set_cons_succ]
                    refine take_off 17 (some 84) rfl (by rfl) (by kernel_rfl) (by kernel_rfl) (by kernel_rfl) (fun _ _ _ h => h) (by rfl) (by assumption) ?_
                    try simp only [Act.put, List.setIfInBounds_toArray, List.set_cons_zero, List.set_cons_succ]
                    refine take_on 18 (some 85) (v := ?_) rfl (by rfl) (by kernel_rfl) (by kernel_rfl) (by kernel_rfl) (fun _ _ _ h => h) (by rfl) ?_ (by assumption) ?_
                    rotate_left
                    · (intro w hSw; (try dsimp only at hSw); go_simp; try with_reducible rfl)
                    try simp only [Act.put, List.setIfInBounds_toArray, List.set_cons_zero, List.set_cons_succ]
                    refine take_on 19 (some 86) (v := ?_) rfl (by rfl) (by kernel_rfl) (by kernel_rfl) (by kernel_rfl) (fun _ _ _ h => h) (by rfl) ?_ (by assumption) ?_
                    rotate_left
                    · (intro w hSw; (try dsimp only at hSw); go_simp; try with_reducible rfl)
                    try simp only [Act.put, List.setIfInBounds_toArray, List.set_cons_zero, List.set_cons_succ]
                    refine take_off 20 (some 87) rfl (by rfl) (by kernel_rfl) (by kernel_rfl) (by kernel_rfl) (fun _ _ _ h => h) (by rfl) (by assumption) ?_
                    try simp only [Act.put, List.setIfInBounds_toArray, List.set_cons_zero, List.set_cons_succ]
                    refine take_off 21 (some 88) rfl (by rfl) (by kernel_rfl) (by kernel_rfl) (by kernel_rfl) (fun _ _ _ h => h) (by rfl) (by assumption) ?_
                    try simp only [Act.put, List.setIfInBounds_toArray, List.set_cons_zero, List.set_cons_succ]
                    refine take_off 22 (some 89) rfl (by rfl) (by kernel_rfl) (by kernel_rfl) (by kernel_rfl) (fun _ _ _ h => h) (by rfl) (by assumption) ?_
                    try simp only [Act.put, List.setIfInBounds_toArray, List.set_cons_zero, List.set_cons_succ]
                    refine take_off 23 (some 90) rfl (by rfl) (by kernel_rfl) (by kernel_rfl) (by kernel_rfl) (fun _ _ _ h => h) (by rfl) (by assumption) ?_
                    try simp only [Act.put, List.setIfInBounds_toArray, List.set_cons_zero, List.set_cons_succ]
                    refine take_off 24 (some 91) rfl (by rfl) (by kernel_rfl) (by kernel_rfl) (by kernel_rfl) (fun _ _ _ h => h) (by rfl) (by assumption) ?_
                    try simp only [Act.put, List.setIfInBounds_toArray, List.set_cons_zero, List.set_cons_succ]
                    refine take_off 25 (some 92) rfl (by rfl) (by kernel_rfl) (by kernel_rfl) (by kernel_rfl) (fun _ _ _ h => h) (by rfl) (by assumption) ?_
                    try simp only [Act.put, List.setIfInBounds_toArray, List.set_cons_zero, List.set_cons_succ]
                    refine take_off 26 (some 93) rfl (by rfl) (by kernel_rfl) (by kernel_rfl) (by kernel_rfl) (fun _ _ _ h => h) (by rfl) (by assumption) ?_
                    try simp only [Act.put, List.setIfInBounds_toArray, List.set_cons_zero, List.set_cons_succ]
                    refine take_off 27 (some 94) rfl (by rfl) (by kernel_rfl) (by kernel_rfl) (by kernel_rfl) (fun _ _ _ h => h) (by rfl) (by assumption) ?_
                    try simp only [Act.put, List.setIfInBounds_toArray, List.set_cons_zero, List.set_cons_succ]
                    refine take_off 28 (some 95) rfl (by rfl) (by kernel_rfl) (by kernel_rfl) (by kernel_rfl) (fun _ _ _ h => h) (by rfl) (by assumption) ?_
                    try simp only [Act.put, List.setIfInBounds_toArray, List.set_cons_zero, List.set_cons_succ]
                    refine take_off 29 (some 96) rfl (by rfl) (by kernel_rfl) (by kernel_rfl) (by kernel_rfl) (fun _ _ _ h => h) (by rfl) (by assumption) ?_
                    try simp only [Act.put, List.setIfInBounds_toArray, List.set_cons_zero, List.set_cons_succ]
                    refine take_off 30 (some 97) rfl (by rfl) (by kernel_rfl) (by kernel_rfl) (by kernel_rfl) (fun _ _ _ h => h) (by rfl) (by assumption) ?_
                    try simp only [Act.put, List.setIfInBounds_toArray, List.set_cons_zero, List.set_cons_succ]
                    refine take_on 31 (some 98) (v := ?_) rfl (by rfl) (by kernel_rfl) (by kernel_rfl) (by kernel_rfl) (fun _ _ _ h => h) (by rfl) ?_ (by assumption) ?_
                    rotate_left
                    · (intro w hSw; (try dsimp only at hSw); go_simp; try with_reducible rfl)
                    try simp only [Act.put, List.setIfInBounds_toArray, List.set_cons_zero, List.set_cons_succ]
                    refine wpAnyH_done (by kernel_rfl) ?_ _
                    refine NoPanic.normal ?_
                    go_wp2_with fail
                    go_roundw
                    case rel => exact ⟨n, k + 1, by omega, by omega, by first | rfl | go_num, by go_num, HN2, Lib.hid (HWC.out.trans (hb1.mono HWC.out.size))⟩
                    case measure => simp [intOf]; omega
                  | true =>
                    obtain ⟨hc1, hc2, hc3⟩ := HYK.out hs
                    have HN2 : Hid (n + 1 = (X.take (k + 1)).countP (inSet r)) := Lib.hid (by rw [HCN.out, hc3, if_pos rfl, ← HN.out])
                    rw [hs] at SMH
                    rw [hc1] at HMH
                    have hc4 : decide (X[k].2.2.2.1 ≤ r.2.2.2.1) = true := decide_eq_true hc2
                    clear hs hc1 hc2 hc3
                    go_upto_region 18 with fail
                    go_region_held3 (fun w' => w'.cell? ⟨ob, 0, none⟩ = some (.string r.1) ∧ w'.cell? ⟨ob, 1, none⟩ = some (.int .i64 r.2.1) ∧ w'.cell? ⟨ob, 2, none⟩ = some (.int .i64 r.2.2.1) ∧ w'.cell? ⟨ob, 3, none⟩ = some (.int .i64 0) ∧ w'.cell? ⟨ob, 4, none⟩ = some (.slice (some ⟨dg, dq, none⟩) X[k].2.2.2.2.length dc) ∧ w'.cell? ⟨b, o + i * 5, none⟩ = some (.string r.1) ∧ w'.cell? ⟨b, o + i * 5 + 1, none⟩ = some (.int .i64 r.2.1) ∧ w'.cell? ⟨b, o + i * 5 + 2, none⟩ = some (.int .i64 r.2.2.1) ∧ w'.cell? ⟨b, o + i * 5 + 3, none⟩ = some (.int .i64 r.2.2.2.1) ∧ w'.cell? ⟨b, o + i * 5 + 4, none⟩ = some (.string r.2.2.2.2) ∧ w'.cell? ⟨xb, xo + k * 5, none⟩ = some (.string X[k].1) ∧ w'.cell? ⟨xb, xo + k * 5 + 1, none⟩ = some (.int .i64 X[k].2.1) ∧ w'.cell? ⟨xb, xo + k * 5 + 2, none⟩ = some (.int .i64 X[k].2.2.1) ∧ w'.cell? ⟨xb, xo + k * 5 + 3, none⟩ = some (.int .i64 X[k].2.2.2.1) ∧ w'.cell? ⟨xb, xo + k * 5 + 4, none⟩ = some (.slice (some ⟨dg, dq, none⟩) X[k].2.2.2.2.length dc)) (first | exact HK2H.out _ (Below.refl _ _).drew | exact HK2H.out _ hb1 | exact HK2H.out _ hb2)
                      (first
                        | (go_at_call 30; refine (SMH.out _ HWC.out.drew).out.mono ?_; rintro e w6 ⟨rfl, xb6⟩; have hb1 : Below wc.heap.size wc w6 := (Below.refl _ _).drew.trans xb6)
                        | (go_at_call 33; refine (HMH.out _ (HWC.out.trans (hb1.mono HWC.out.size))).out.mono ?_; rintro e w7 ⟨rfl, xb7⟩; have hb2 : Below wc.heap.size wc w7 := hb1.trans (xb7.mono hb1.size)))
                    go_wp2_with fail
                    go_roundw
                    case rel => exact ⟨n + 1, k + 1, by omega, by omega, by first | rfl | go_num, by go_num, HN2, Lib.hid (HWC.out.trans (hb2.mono HWC.out.size))⟩
                    case measure => simp [intOf]; omega
              · have hkX : k = X.length := by omega
                subst hkX
                have hn1 : n = 1 := by have := HN.out; rw [List.take_length, HONE.out] at this; exact this
                subst hn1
                have hkl' : ¬ ((X.length : Int) < (X.length : Int)) := by omega
                go_wp2_with fail
                go_roundw
                case rel => exact ⟨i + 1, by omega, by go_num, HW4⟩
                case measure => simp [intOf]; omega
          · have hil2 : i = l.length := by omega
            subst hil2
            have hil' : ¬ ((l.length : Int) < (l.length : Int)) := by omega
            clear HV4 HN' HS
            go_wp2_with fail
            go_loopw [10] (fun i wr => ∃ k : Nat, k ≤ X.length ∧ i = .int .i64 k ∧ Hid (Below w4.heap.size w4 wr)) (fun i _ => X.length - (intOf i).toNat)
            case atStart => exact ⟨0, Nat.zero_le _, rfl, HW3⟩
            case round =>
              obtain ⟨k, hk, rfl, HW5⟩ := hrel
              by_cases hkl : k < X.length
              · obtain ⟨xb, xo, xc', dv, hxv, hxl, hxr⟩ := HSA.out.open (by rintro rfl; simp at hkl)
                simp only [Value.slice.injEq, true_and] at hxv
                obtain ⟨rfl, rfl⟩ := hxv
                have hkl' : (k : Int) < (X.length : Int) := by omega
                have hk0 : (0 : Int) ≤ (k : Int) := by omega
                have hsl := (hxr k hkl).1
                have hst := (hxr k hkl).2
                obtain ⟨x0, x1, x2, x3, x4⟩ := hsl.below HW5.out hxl
                have hXK := HXN.out _ (List.getElem_mem hkl)
                have hdn := HG.out.dn _ (List.getElem_mem hkl)
                have HSL := Lib.hid hsl
                have HST := Lib.hid hst
                have HXK := Lib.hid hXK
                have HDN := Lib.hid hdn
                clear hxr hsl hst hXK hdn
                go_wp2_with fail
                refine (recs_ok X[k] (dv k) _ (HST.out.below HW5.out) (by have := HXK.out.2.1; omega)).mono ?_
                rintro e w6 ⟨v6, rfl, hR6, b6⟩
                go_wp2_with fail
                refine (group_ok v6 (recsOf X[k]) w6 hR6 (by rw [recsOf_len]; have := HXK.out.2.1; omega) (fun q hq => by rw [recsOf_mem hq]; exact ⟨HXK.out.1, HXK.out.2.2⟩)).mono ?_
                rintro e w7 ⟨v7, L7, rfl, hO7, hL7, b7⟩
                have hS7 := hO7.sets
                rw [hL7, recsOf_group _ HST.out.1 HDN.out] at hS7
                clear hO7 hL7
                go_wp2_with fail
                have hb6 := HW5.out.trans (b6.mono HW5.out.size)
                have hb7 := hb6.trans (b7.mono hb6.size)
                have hS := HSL.out.below hb7 hxl
                have hT := HST.out.below hb7
                have hU7 : SetsAt w7 (.slice (some ⟨xb, xo + k * 5, none⟩) 1 (xc - k)) [X[k]] := ⟨some ⟨xb, xo + k * 5, none⟩, xc - k, fun _ => dv k, rfl, fun i hi => by
                  have h0 : i = 0 := by simp at hi; omega
                  subst h0
                  refine ⟨xb, xo + k * 5, rfl, ?_⟩
                  simp only [Nat.zero_mul, Nat.add_zero, List.getElem_cons_zero]
                  exact ⟨hS, hT⟩⟩
                refine (sameSets_one X[k] v7 _ w7 hS7 hU7 (by have := HXK.out.2.1; omega)).mono ?_
                rintro e w8 ⟨rfl, b8⟩
                have hb8 := hb7.trans (b8.mono hb7.size)
                clear hS hT hU7 hS7 hR6 b6 b7 b8 hb6 hb7 x0 x1 x2 x3 x4
                go_wp2_with fail
                go_roundw
                case rel => exact ⟨k + 1, by omega, by go_num, Lib.hid hb8⟩
                case measure => simp [intOf]; omega
              · have hkX : k = X.length := by omega
                subst hkX
                have hkl' : ¬ ((X.length : Int) < (X.length : Int)) := by omega
                go_wp2_with fail
                exact HR.out _ _ ⟨rfl, HBB.out.trans (HW5.out.mono HBB.out.size)⟩
end Go.Proofs.Ytpijbdddegbjbaa
