/- ostiarylaw22.SetsTurned returns true. Condition: sizes as Fits says. -/
import Derived.Test.YtpijbdddegbjbaaTurnM
namespace Go.Proofs.Ytpijbdddegbjbaa
open Go.RowKit Go.Proofs Go.Sort
theorem fits_name {l : List RecV} (h : sumR l ≤ 2000) (r : RecV) (hr : r ∈ l) : r.1.size ≤ 1000000000 := by
  have := sumR_le l r hr
  unfold sizeR at this
  omega
theorem newRow_nil (W : World) (base : Nat) (hb : base ≤ W.heap.size) : RecRow (W.alloc (.cells #[] 43)) base W.heap.size 0 [] :=
  ⟨rfl, .inr ⟨_, 0, #[], rfl, hb, blk_new _ _, Nat.le_refl _, by decide, rfl, rfl⟩⟩
theorem recs_news {W : World} {b o : Nat} {l : List RecV} (h : ∀ i (h : i < l.length), RecAt W b (o + i * 5) l[i]) : ∀ j u, (l.flatMap recCells)[j]? = some u → W.cell? ((⟨b, o, none⟩ : Addr).add j) = some u := by
  intro j u hj
  have hlt : j < l.length * 5 := by
    rw [← chunk_len recCells 5 recCells_len]
    exact (List.getElem?_eq_some_iff.1 hj).1
  have hi : j / 5 < l.length := by omega
  have hr := h (j / 5) hi
  rw [show j = j / 5 * 5 + j % 5 from by omega, chunk_get recCells 5 recCells_len l _ hi _ (by omega)] at hj
  have e : (⟨b, o, none⟩ : Addr).add j = ⟨b, o + j / 5 * 5 + j % 5, none⟩ := by
    rw [addr_add, Nat.add_assoc]
    congr 2
    omega
  rw [e, ← hj]
  have : j % 5 = 0 ∨ j % 5 = 1 ∨ j % 5 = 2 ∨ j % 5 = 3 ∨ j % 5 = 4 := by omega
  rcases this with h | h | h | h | h <;> rw [h]
  · exact hr.1
  · exact hr.2.1
  · exact hr.2.2.1
  · exact hr.2.2.2.1
  · exact hr.2.2.2.2
theorem recs_one (l : List RecV) : ∀ u ∈ l.flatMap recCells, u.oneCell' = true := by
  intro u hu
  obtain ⟨r, _, hr⟩ := List.mem_flatMap.1 hu
  simp [recCells] at hr
  rcases hr with rfl | rfl | rfl | rfl | rfl <;> rfl
theorem recRow_of {W : World} {base k : Nat} {v : Value} {xs : List Value} {l : List RecV} (h : W.ownsRow base 43 5 v k xs) (hk : k = l.length) (hx : xs = l.flatMap recCells) (hne : l ≠ []) : ∃ g cap, v = .slice (some ⟨g, 0, none⟩) l.length cap ∧ base ≤ g ∧ RecRow W base g cap l := by
  subst hk hx
  obtain ⟨h1, h2⟩ := h
  rcases h2 with ⟨_, h2⟩ | ⟨g, cap, cur, rfl, hg, h2⟩
  · exact absurd (List.length_eq_zero_iff.1 h2) hne
  · exact ⟨g, cap, rfl, hg, h1, .inr ⟨g, cap, cur, rfl, hg, h2⟩⟩
set_option maxRecDepth 100000 in
set_option maxHeartbeats 4000000 in
theorem turned_ok (v u : Value) (l : List RecV) (t : List Int) (w : World) (h : RecsAt w v l) (ht : TurnsAt w u t) (hf : Fits l) (hne : l ≠ []) :
    Calls Try.prog 4 #[v, u] w fun e w' => e = .returned (.bool true) ∧ Below w.heap.size w w' := by
  obtain ⟨i0, gi, gz0, gz1, gz2⟩ := info_parts infoRec
  refine hideR fun R' HR => ?_
  have HT := Lib.hid ht
  have HV := Lib.hid h
  obtain ⟨uo, uc, hu⟩ : ∃ uo uc, u = .slice uo t.length uc := let ⟨a, b, e, _⟩ := ht; ⟨a, b, e⟩
  obtain ⟨b, o, cap, hv, hblt, hr⟩ := h.open hne
  subst hv hu
  have HC := Lib.hid hr
  have hlp : 0 < l.length := List.length_pos_iff.2 hne
  have HF := Lib.hid hf
  clear hr h hf hne ht
  go_enter Try.func4, Try.ntmps4
  go_wp2_with fail
  refine (awake22_ok _).mono ?_
  rintro e w1 ⟨rfl, b1⟩
  go_wp2_with fail
  refine (longRecs_ok _ l 40 w1 (HV.out.below b1) HF.out (by decide) (by decide)).mono ?_
  rintro e w2 ⟨lb, rfl, hlb, b2⟩
  have b12 := b1.trans (b2.mono b1.size)
  cases lb with
  | true =>
    go_wp2
    exact HR.out _ _ ⟨rfl, b12⟩
  | false =>
    obtain ⟨hl40, hl2⟩ := hlb rfl
    have HS := Lib.hid (fits_name hl2)
    clear hlb hl2 HF
    have HB2 := Lib.hid b12
    clear b12 b1 b2
    by_cases ht100 : (100 : Int) < (t.length : Int)
    · go_wp2
      exact HR.out _ _ ⟨rfl, HB2.out⟩
    · go_wp2_with fail
      go_loopw [6] (fun i wr => ∃ k : Nat, k ≤ l.length ∧ i = .int .i64 k ∧ Hid (∀ j (h : j < l.length), j < k → labErr (bl l[j].1) = 0) ∧ Hid (Below w.heap.size w wr)) (fun i _ => l.length - (intOf i).toNat)
      case atStart => exact ⟨0, Nat.zero_le _, rfl, Lib.hid (fun j _ h => by omega), HB2⟩
      case round =>
        obtain ⟨k, hk, rfl, HN, HW⟩ := hrel
        by_cases hlt : k < l.length
        · have hlt' : (k : Int) < (l.length : Int) := by omega
          obtain ⟨c0, _, _, _, _⟩ := (HC.out k hlt).below HW.out hblt
          go_wp2_with fail
          refine (setCheck_ok l[k].1 _ _ (HS.out _ (List.getElem_mem hlt)) (by first | exact blk_cell (blk_new _ _) 0 | exact cell_one_new _ _ _)).mono ?_
          rintro e wc ⟨rfl, bc⟩
          by_cases hz : labErr (bl l[k].1) = 0
          · rw [if_pos hz]
            go_wp2_with fail
            go_roundw
            case rel => exact ⟨k + 1, by omega, by go_num, Lib.hid (fun j hj hjk => by
              by_cases hjk' : j = k
              · subst hjk'; exact hz
              · exact HN.out j hj (by omega)), Lib.hid ((HW.out.alloc HW.out.size _).trans (bc.mono (by have := HW.out.size; simp; omega)))⟩
            case measure => simp [intOf]; omega
          · rw [if_neg hz]
            go_wp2_with fail
            exact HR.out _ _ ⟨rfl, (HW.out.alloc HW.out.size _).trans (bc.mono (by have := HW.out.size; simp; omega))⟩
        · have hkl : k = l.length := by omega
          subst hkl
          have HN' : Hid (∀ r ∈ l, labErr (bl r.1) = 0) := Lib.hid (fun r hr => by
            obtain ⟨j, hj, rfl⟩ := List.mem_iff_getElem.1 hr
            exact HN.out j hj hj)
          clear HN
          have hlt' : ¬ ((l.length : Int) < (l.length : Int)) := by omega
          have hsw := HW.out.size
          go_wp2_with (first
            | (at_builtin; refine wpList_append_own _ rfl _ _ 23 rfl w.heap.size 43 i0 (.agg #[.string (sb []), .int .i64 0, .int .i64 0, .int .i64 0, .string (sb [])]) 5 56 Try.underlying23 gi gz0 gz1 gz2 rfl (by decide) _ 0 _ rfl (newRow_nil wr w.heap.size hsw) ⟨b, o, none⟩ l.length cap (l.flatMap recCells) rfl (chunk_len recCells 5 recCells_len l) (fun j u hj => cell_alloc (recs_news (fun i hi => (HC.out i hi).below HW.out hblt) j u hj)) (recs_one l) (by unfold maxLen; omega) (by omega) (by simp; omega) ?_; intro v8 w8 hown8 hg8 _)
            | fail)
          obtain ⟨mg, mcap, hv8, hmg, hR8⟩ := recRow_of hown8 (by omega) (List.nil_append _) (by rintro rfl; simp at hlp)
          have HB8 := Lib.hid ((HW.out.alloc hsw _).grown hg8 (by simp; omega) (fun k e => by cases e; exact hsw))
          have HR8 := Lib.hid hR8
          have HMG := Lib.hid hmg
          subst hv8
          clear hown8 hg8 hR8 hmg
          have hl0 : (0 : Int) < (l.length : Int) := by omega
          go_loopw [8] (fun i wr => ∃ (k : Nat) (M : List RecV), k ≤ t.length ∧ i = .int .i64 k ∧ Hid (M.Perm l) ∧ Hid (RecRow wr w.heap.size mg mcap M) ∧ Hid (Below w.heap.size w wr)) (fun i _ => t.length - (intOf i).toNat)
          case atStart => exact ⟨0, l, Nat.zero_le _, rfl, Lib.hid (List.Perm.refl _), HR8, HB8⟩
          case round =>
            obtain ⟨k, M, hk, rfl, HP, HRR, HB⟩ := hrel
            have hML := HP.out.length_eq
            by_cases hlt : k < t.length
            · have hkt : (k : Int) < (t.length : Int) := by omega
              obtain ⟨tb, to', tc, hte, htl, htc⟩ := HT.out.lt (by rintro rfl; simp at hlt)
              simp only [Value.slice.injEq, true_and] at hte
              obtain ⟨rfl, rfl⟩ := hte
              have c0 := bel_cell HB.out htl (htc k hlt)
              have hp0 : ((k % l.length : Nat) : Int) = (k : Int).tmod (l.length : Int) := Int.ofNat_tmod _ _
              have hw0 : IntKind.i64.wrap ((k : Int).tmod (l.length : Int)) = ((k % l.length : Nat) : Int) := by
                rw [← hp0]; exact IntWalk.i64_in _ (by have := Nat.mod_lt k hlp; omega)
              have hz0 : ((l.length : Int) == 0) = false := beq_eq_false_iff_ne.2 (by omega)
              have PK := fun W => (pick_ok t[k] l.length W (by omega) (by omega)).mono fun e w' h => (⟨h.1, h.2.symm⟩ : e = .returned (.int .i64 (pickM t[k] l.length)) ∧ w' = W)
              have PKH := Lib.hid PK
              have hpm : (k : Int) % (l.length : Int) = ((k % l.length : Nat) : Int) := by omega
              clear PK hp0
              obtain ⟨q, hqe, hq⟩ : ∃ q : Nat, pickM t[k] l.length = (q : Int) ∧ q < l.length := by
                have := pickM_lt t[k] l.length (by omega)
                exact ⟨(pickM t[k] l.length).toNat, by omega, by omega⟩
              rw [hqe] at PKH
              have hpl : k % l.length < l.length := Nat.mod_lt _ hlp
              generalize hpe : k % l.length = p at *
              clear htc hqe hpe
              go_upto_region 13 with fail
              go_quiet ((go_at_call 28; exact Calls.quiet_of_same (PKH.out _)))
              rw [hpm]
              have hR1 := HRR.out.drewN (q := nq)
              have hB1 := bel_drewN HB.out nq
              clear hw0 hz0 hpm c0 HRR HB PKH htl
              generalize wr.drewN nq = W at *
              have hp2 : p < M.length := by omega
              have hq1 : q < M.length := by omega
              have hq2 : q < (M.set p M[q]).length := by rw [List.length_set]; omega
              have hR2 := (hR1.put p hp2 M[q]).drew
              have hB2 := (setRec_below (p := p) (r := M[q]) hB1 HMG.out).drew
              have hS2 : True := trivial
              simp only [setRec] at hR2 hB2
              have a0 := (hR1.cell p hp2 0 (by omega)).1
              have a1 := (hR1.cell p hp2 1 (by omega)).1
              have a2 := (hR1.cell p hp2 2 (by omega)).1
              have a3 := (hR1.cell p hp2 3 (by omega)).1
              have a4 := (hR1.cell p hp2 4 (by omega)).1
              have f0 := (hR1.cell p hp2 0 (by omega)).2
              have f1 := (hR1.cell p hp2 1 (by omega)).2
              have f2 := (hR1.cell p hp2 2 (by omega)).2
              have f3 := (hR1.cell p hp2 3 (by omega)).2
              have f4 := (hR1.cell p hp2 4 (by omega)).2
              have d0 := (hR1.cell q hq1 0 (by omega)).1
              have d1 := (hR1.cell q hq1 1 (by omega)).1
              have d2 := (hR1.cell q hq1 2 (by omega)).1
              have d3 := (hR1.cell q hq1 3 (by omega)).1
              have d4 := (hR1.cell q hq1 4 (by omega)).1
              simp only [Nat.add_zero, recCells, List.getElem?_cons_zero, List.getElem?_cons_succ] at a0 a1 a2 a3 a4 f0 d0 d1 d2 d3 d4
              have hpL : (p : Int) < (l.length : Int) := by omega
              have hqL : (q : Int) < (l.length : Int) := by omega
              clear hR1
              go_upto_region 14 with fail
              refine wp_region_noPanic ?_
              refine wp_region_heldN 16 rfl (S := fun _ => True) (by kernel_rfl) trivial (fun _ => ?_)
              refine take_on 0 (some 66) (v := ?_) rfl (by rfl) (by kernel_rfl) (by kernel_rfl) (by kernel_rfl) (fun _ _ _ h => h) (by rfl) ?_ (by assumption) ?_
              rotate_left
              · (intro w hSw; (try dsimp only at hSw); go_simp; try with_reducible rfl)
              try simp only [Act.put, List.setIfInBounds_toArray, List.set_cons_zero, List.set_cons_succ]
              refine take_on 1 (some 67) (v := ?_) rfl (by rfl) (by kernel_rfl) (by kernel_rfl) (by kernel_rfl) (fun _ _ _ h => h) (by rfl) ?_ (by assumption) ?_
              rotate_left
              · (intro w hSw; (try dsimp only at hSw); go_simp; try with_reducible rfl)
              try simp only [Act.put, List.setIfInBounds_toArray, List.set_cons_zero, List.set_cons_succ]
              refine take_on 2 (some 68) (v := ?_) rfl (by rfl) (by kernel_rfl) (by kernel_rfl) (by kernel_rfl) (fun _ _ _ h => h) (by rfl) ?_ (by assumption) ?_
              rotate_left
              · (intro w hSw; (try dsimp only at hSw); go_simp; try with_reducible rfl)
              try simp only [Act.put, List.setIfInBounds_toArray, List.set_cons_zero, List.set_cons_succ]
              refine take_on 3 (some 69) (v := ?_) rfl (by rfl) (by kernel_rfl) (by kernel_rfl) (by kernel_rfl) (fun _ _ _ h => h) (by rfl) ?_ (by assumption) ?_
              rotate_left
              · (intro w hSw; (try dsimp only at hSw); go_simp; try with_reducible rfl)
              try simp only [Act.put, List.setIfInBounds_toArray, List.set_cons_zero, List.set_cons_succ]
              refine take_on 4 (some 70) (v := ?_) rfl (by rfl) (by kernel_rfl) (by kernel_rfl) (by kernel_rfl) (fun _ _ _ h => h) (by rfl) ?_ (by assumption) ?_
              rotate_left
              · (intro w hSw; (try dsimp only at hSw); go_simp; try with_reducible rfl)
              try simp only [Act.put, List.setIfInBounds_toArray, List.set_cons_zero, List.set_cons_succ]
              refine take_on 5 (some 71) (v := ?_) rfl (by rfl) (by kernel_rfl) (by kernel_rfl) (by kernel_rfl) (fun _ _ _ h => h) (by rfl) ?_ (by assumption) ?_
              rotate_left
              · (intro w hSw; (try dsimp only at hSw); go_simp; try with_reducible rfl)
              try simp only [Act.put, List.setIfInBounds_toArray, List.set_cons_zero, List.set_cons_succ]
              refine take_on 6 (some 72) (v := ?_) rfl (by rfl) (by kernel_rfl) (by kernel_rfl) (by kernel_rfl) (fun _ _ _ h => h) (by rfl) ?_ (by assumption) ?_
              rotate_left
              · (intro w hSw; (try dsimp only at hSw); go_simp; try with_reducible rfl)
              try simp only [Act.put, List.setIfInBounds_toArray, List.set_cons_zero, List.set_cons_succ]
              refine take_on 8 (some 74) (v := ?_) rfl (by rfl) (by kernel_rfl) (by kernel_rfl) (by kernel_rfl) (fun _ _ _ h => h) (by rfl) ?_ (by assumption) ?_
              rotate_left
              · (intro w hSw; (try dsimp only at hSw); go_simp; try with_reducible rfl)
              try simp only [Act.put, List.setIfInBounds_toArray, List.set_cons_zero, List.set_cons_succ]
              refine take_on 9 (some 75) (v := ?_) rfl (by rfl) (by kernel_rfl) (by kernel_rfl) (by kernel_rfl) (fun _ _ _ h => h) (by rfl) ?_ (by assumption) ?_
              rotate_left
              · (intro w hSw; (try dsimp only at hSw); go_simp; try with_reducible rfl)
              try simp only [Act.put, List.setIfInBounds_toArray, List.set_cons_zero, List.set_cons_succ]
              refine take_on 10 (some 76) (v := ?_) rfl (by rfl) (by kernel_rfl) (by kernel_rfl) (by kernel_rfl) (fun _ _ _ h => h) (by rfl) ?_ (by assumption) ?_
              rotate_left
              · (intro w hSw; (try dsimp only at hSw); go_simp; try with_reducible rfl)
              try simp only [Act.put, List.setIfInBounds_toArray, List.set_cons_zero, List.set_cons_succ]
              refine wpAnyH_ready (rs := [7, 11]) (by kernel_rfl) (by simp) ?_
              refine AllReadyH.cons (o := _) rfl (fun K hK => ?_) (AllReadyH.cons (o := _) rfl (fun K hK => ?_) AllReadyH.nil)
              ·
                go_simp
                refine hK.out _ _ trivial (fun _ => ?_)
                clear hK K
                try simp only [Act.put, List.setIfInBounds_toArray, List.set_cons_zero, List.set_cons_succ]
                refine wpAnyH_ready (rs := [11]) (by kernel_rfl) (by simp) ?_
                refine AllReadyH.cons (o := _) rfl (fun K hK => ?_) AllReadyH.nil
                go_simp
                refine hK.out _ _ trivial (fun _ => ?_)
                clear hK K
                try simp only [Act.put, List.setIfInBounds_toArray, List.set_cons_zero, List.set_cons_succ]
                refine take_on 12 (some 78) (v := ?_) rfl (by rfl) (by kernel_rfl) (by kernel_rfl) (by kernel_rfl) (fun _ _ _ h => h) (by rfl) ?_ (by assumption) ?_
                rotate_left
                · (intro w hSw; (try dsimp only at hSw); go_simp; try with_reducible rfl)
                try simp only [Act.put, List.setIfInBounds_toArray, List.set_cons_zero, List.set_cons_succ]
                refine wpAnyH_ready (rs := [13]) (by kernel_rfl) (by simp) ?_
                refine AllReadyH.cons (o := _) rfl (fun K hK => ?_) AllReadyH.nil
                go_simp
                refine hK.out _ _ trivial (fun _ => ?_)
                generalize World.drew (((((W.setCell ⟨mg, p * 5, none⟩ (.string M[q].1)).setCell ⟨mg, p * 5 + 1, none⟩ (.int .i64 M[q].2.1)).setCell ⟨mg, p * 5 + 2, none⟩ (.int .i64 M[q].2.2.1)).setCell ⟨mg, p * 5 + 3, none⟩ (.int .i64 M[q].2.2.2.1)).setCell ⟨mg, p * 5 + 4, none⟩ (.string M[q].2.2.2.2)) = W1 at hR2 hB2 hS2 ⊢
                have HR2 := Lib.hid hR2
                have HB2' := Lib.hid hB2
                have y0 := (hR2.cell q hq2 0 (by omega)).1
                have y1 := (hR2.cell q hq2 1 (by omega)).1
                have y2 := (hR2.cell q hq2 2 (by omega)).1
                have y3 := (hR2.cell q hq2 3 (by omega)).1
                have y4 := (hR2.cell q hq2 4 (by omega)).1
                have z0 := (hR2.cell q hq2 0 (by omega)).2
                have z1 := (hR2.cell q hq2 1 (by omega)).2
                have z2 := (hR2.cell q hq2 2 (by omega)).2
                have z3 := (hR2.cell q hq2 3 (by omega)).2
                have z4 := (hR2.cell q hq2 4 (by omega)).2
                simp only [Nat.add_zero, recCells, List.getElem?_cons_zero, List.getElem?_cons_succ] at y0 y1 y2 y3 y4 z0
                clear hR2 hB2
                clear hK K
                try simp only [Act.put, List.setIfInBounds_toArray, List.set_cons_zero, List.set_cons_succ]
                refine take_on 14 (some 79) (v := ?_) rfl (by rfl) (by kernel_rfl) (by kernel_rfl) (by kernel_rfl) (fun _ _ _ h => h) (by rfl) ?_ (by assumption) ?_
                rotate_left
                · (intro w hSw; (try dsimp only at hSw); go_simp; try with_reducible rfl)
                try simp only [Act.put, List.setIfInBounds_toArray, List.set_cons_zero, List.set_cons_succ]
                refine wpAnyH_ready (rs := [15]) (by kernel_rfl) (by simp) ?_
                refine AllReadyH.cons (o := _) rfl (fun K hK => ?_) AllReadyH.nil
                go_simp
                refine hK.out _ _ trivial (fun _ => ?_)
                clear hK K
                try simp only [Act.put, List.setIfInBounds_toArray, List.set_cons_zero, List.set_cons_succ]
                refine wpAnyH_done (by kernel_rfl) ?_ _
                refine NoPanic.normal ?_
                go_wp2_with fail
                go_roundw
                case rel => exact ⟨k + 1, (M.set p M[q]).set q M[p], by omega, by go_num, Lib.hid ((List.set_set_perm (by omega) (by omega)).trans HP.out), Lib.hid (HR2.out.put q hq2 M[p]), Lib.hid (setRec_below HB2'.out HMG.out)⟩
                case measure => simp [intOf]; omega
              ·
                go_simp
                refine hK.out _ _ trivial (fun _ => ?_)
                clear hK K
                try simp only [Act.put, List.setIfInBounds_toArray, List.set_cons_zero, List.set_cons_succ]
                refine wpAnyH_ready (rs := [7]) (by kernel_rfl) (by simp) ?_
                refine AllReadyH.cons (o := _) rfl (fun K hK => ?_) AllReadyH.nil
                go_simp
                refine hK.out _ _ trivial (fun _ => ?_)
                clear hK K
                try simp only [Act.put, List.setIfInBounds_toArray, List.set_cons_zero, List.set_cons_succ]
                refine take_on 12 (some 78) (v := ?_) rfl (by rfl) (by kernel_rfl) (by kernel_rfl) (by kernel_rfl) (fun _ _ _ h => h) (by rfl) ?_ (by assumption) ?_
                rotate_left
                · (intro w hSw; (try dsimp only at hSw); go_simp; try with_reducible rfl)
                try simp only [Act.put, List.setIfInBounds_toArray, List.set_cons_zero, List.set_cons_succ]
                refine wpAnyH_ready (rs := [13]) (by kernel_rfl) (by simp) ?_
                refine AllReadyH.cons (o := _) rfl (fun K hK => ?_) AllReadyH.nil
                go_simp
                refine hK.out _ _ trivial (fun _ => ?_)
                generalize World.drew (((((W.setCell ⟨mg, p * 5, none⟩ (.string M[q].1)).setCell ⟨mg, p * 5 + 1, none⟩ (.int .i64 M[q].2.1)).setCell ⟨mg, p * 5 + 2, none⟩ (.int .i64 M[q].2.2.1)).setCell ⟨mg, p * 5 + 3, none⟩ (.int .i64 M[q].2.2.2.1)).setCell ⟨mg, p * 5 + 4, none⟩ (.string M[q].2.2.2.2)) = W1 at hR2 hB2 hS2 ⊢
                have HR2 := Lib.hid hR2
                have HB2' := Lib.hid hB2
                have y0 := (hR2.cell q hq2 0 (by omega)).1
                have y1 := (hR2.cell q hq2 1 (by omega)).1
                have y2 := (hR2.cell q hq2 2 (by omega)).1
                have y3 := (hR2.cell q hq2 3 (by omega)).1
                have y4 := (hR2.cell q hq2 4 (by omega)).1
                have z0 := (hR2.cell q hq2 0 (by omega)).2
                have z1 := (hR2.cell q hq2 1 (by omega)).2
                have z2 := (hR2.cell q hq2 2 (by omega)).2
                have z3 := (hR2.cell q hq2 3 (by omega)).2
                have z4 := (hR2.cell q hq2 4 (by omega)).2
                simp only [Nat.add_zero, recCells, List.getElem?_cons_zero, List.getElem?_cons_succ] at y0 y1 y2 y3 y4 z0
                clear hR2 hB2
                clear hK K
                try simp only [Act.put, List.setIfInBounds_toArray, List.set_cons_zero, List.set_cons_succ]
                refine take_on 14 (some 79) (v := ?_) rfl (by rfl) (by kernel_rfl) (by kernel_rfl) (by kernel_rfl) (fun _ _ _ h => h) (by rfl) ?_ (by assumption) ?_
                rotate_left
                · (intro w hSw; (try dsimp only at hSw); go_simp; try with_reducible rfl)
                try simp only [Act.put, List.setIfInBounds_toArray, List.set_cons_zero, List.set_cons_succ]
                refine wpAnyH_ready (rs := [15]) (by kernel_rfl) (by simp) ?_
                refine AllReadyH.cons (o := _) rfl (fun K hK => ?_) AllReadyH.nil
                go_simp
                refine hK.out _ _ trivial (fun _ => ?_)
                clear hK K
                try simp only [Act.put, List.setIfInBounds_toArray, List.set_cons_zero, List.set_cons_succ]
                refine wpAnyH_done (by kernel_rfl) ?_ _
                refine NoPanic.normal ?_
                go_wp2_with fail
                go_roundw
                case rel => exact ⟨k + 1, (M.set p M[q]).set q M[p], by omega, by go_num, Lib.hid ((List.set_set_perm (by omega) (by omega)).trans HP.out), Lib.hid (HR2.out.put q hq2 M[p]), Lib.hid (setRec_below HB2'.out HMG.out)⟩
                case measure => simp [intOf]; omega
            · have hkl : k = t.length := by omega
              subst hkl
              have hkt : ¬ ((t.length : Int) < (t.length : Int)) := by omega
              have hmf : ∀ r ∈ M, r.1.size ≤ 1000000000 ∧ labErr (bl r.1) = 0 := fun r hr => ⟨HS.out r (HP.out.mem_iff.1 hr), HN'.out r (HP.out.mem_iff.1 hr)⟩
              have HMF := Lib.hid hmf
              clear hmf
              have HV1 := Lib.hid (HV.out.below HB.out)
              have HR1 := Lib.hid HRR.out.recs
              rw [hML] at HR1
              go_wp2_with fail
              refine (group_ok _ l wr HV1.out (by omega) (fun r hr => ⟨HS.out r hr, HN'.out r hr⟩)).mono ?_
              rintro e w4 ⟨xv, LA, rfl, hOA, hLA, hB4⟩
              go_wp2_with fail
              refine (group_ok _ M w4 (HR1.out.below hB4) (by omega) HMF.out).mono ?_
              rintro e w5 ⟨yv, LB, rfl, hOB, hLB, hB5⟩
              have hSA := hOA.sets
              rw [hLA] at hSA
              have hSB := hOB.sets
              rw [hLB] at hSB
              have hSA := hSA.below hB5
              have hGA := grouped_ok l
              have hGB := grouped_perm (grouped_ok M) (fun r => HP.out.mem_iff)
              have hlen := turned_len hGA hGB
              have hlike : ∀ s ∈ groupM l, ∃ t ∈ groupM M, sameSet s t = true ∧ s.2.2.2.1 = t.2.2.2.1 := fun s hs => turned_like hGA hGB HN'.out hs
              have hleast := turned_least hGA hGB
              have hAne : groupM l ≠ [] := by
                intro e0
                have := (hGA.key (keyR l[0])).2 ⟨l[0], List.getElem_mem hlp, rfl⟩
                rw [e0] at this
                simp at this
              have hAn : ∀ s ∈ groupM l, s.1.size ≤ 1000000000 ∧ s.2.2.2.2.length ≤ 1000000000 := fun s hs => by
                obtain ⟨r, hr, e1⟩ := hGA.named s hs
                have h1 := HS.out r hr
                rw [e1] at h1
                have h2 := group_data_len l l.length (Nat.le_refl _) s (by rw [List.take_length]; exact hs)
                exact ⟨h1, by omega⟩
              have hBn : ∀ s ∈ groupM M, s.1.size ≤ 1000000000 ∧ s.2.2.2.2.length ≤ 1000000000 := fun s hs => by
                obtain ⟨r, hr, e1⟩ := hGB.named s hs
                have h1 := HS.out r hr
                rw [e1] at h1
                have h2 := group_data_len M M.length (Nat.le_refl _) s (by rw [List.take_length]; exact hs)
                exact ⟨h1, by omega⟩
              have hAl : (groupM l).length ≤ 40 := by
                have := group_len l l.length (Nat.le_refl _)
                rw [List.take_length] at this
                omega
              have HBB : Hid (Below w.heap.size w w5) := Lib.hid ((HB.out.trans (hB4.mono HB.out.size)).trans (hB5.mono (by have := HB.out.size; have := hB4.size; omega)))
              generalize groupM l = A at *
              generalize groupM M = B at *
              clear hOA hLA hOB hLB hB4 hB5 hGA hGB HV1 HR1 HP HRR HMF HN' HS HC HT HV HB HR8 HB8 hML HW
              obtain ⟨xb, xo, xc, da, rfl, hxl, hxc⟩ := hSA.open hAne
              have hBne : B ≠ [] := by rintro rfl; exact hAne (List.length_eq_zero_iff.1 hlen)
              obtain ⟨yb, yo, yc, db, rfl, hyl, hyc⟩ := hSB.open hBne
              have hne0 : ((A.length : Int) != (B.length : Int)) = false := by simp [hlen]
              have HXC := Lib.hid hxc
              have HYC := Lib.hid hyc
              have HLK := Lib.hid hlike
              have HLE := Lib.hid hleast
              have HAN := Lib.hid hAn
              have HBN := Lib.hid hBn
              have HSA := Lib.hid hSA
              have HSB := Lib.hid hSB
              have hBl : B.length ≤ 40 := by omega
              clear hxc hyc hlike hleast hAn hBn hSA hSB hAne hBne hlen
              go_wp2_with fail
              go_loopw [13] (fun i wr => ∃ k : Nat, k ≤ A.length ∧ i = .int .i64 k ∧ Hid (Below w5.heap.size w5 wr)) (fun i _ => A.length - (intOf i).toNat)
              case atStart => exact ⟨0, Nat.zero_le _, rfl, Lib.hid (Below.refl _ _)⟩
              case round =>
                obtain ⟨i, hi, rfl, HW3⟩ := hrel
                by_cases hil : i < A.length
                · have hil' : (i : Int) < (A.length : Int) := by omega
                  have hi0 : (0 : Int) ≤ (i : Int) := by omega
                  have HX := Lib.hid (HXC.out i hil)
                  have HXA := Lib.hid (HAN.out _ (List.getElem_mem hil))
                  have HXL := Lib.hid (HLK.out _ (List.getElem_mem hil))
                  go_wp2_with fail
                  go_loopw [14, 15] (fun nv kv wr => ∃ (n k : Nat), k ≤ B.length ∧ n ≤ k ∧ nv = .int .i64 n ∧ kv = .int .i64 k ∧ Hid (n = 0 → ∀ j (h : j < B.length), j < k → ¬ (sameSet A[i] B[j] = true ∧ A[i].2.2.2.1 = B[j].2.2.2.1)) ∧ Hid (Below w5.heap.size w5 wr)) (fun _ kv _ => B.length - (intOf kv).toNat)
                  case atStart => exact ⟨0, 0, Nat.zero_le _, Nat.le_refl _, rfl, rfl, Lib.hid (fun _ j _ h => by omega), HW3⟩
                  case round =>
                    obtain ⟨n, k, hk, hnk, rfl, rfl, HN, HW4⟩ := hrel
                    by_cases hkl : k < B.length
                    · have hkl' : (k : Int) < (B.length : Int) := by omega
                      have hk0 : (0 : Int) ≤ (k : Int) := by omega
                      obtain ⟨⟨x0, x1, x2, x3, x4⟩, hxs⟩ := HX.out
                      obtain ⟨⟨y0, y1, y2, y3, y4⟩, hys⟩ := HYC.out k hkl
                      have HYN := Lib.hid (HBN.out _ (List.getElem_mem hkl))
                      have SM := fun (W' : World) (hb : Below w5.heap.size w5 W') => Lib.hid (setSame_ok A[i] B[k] (da i) (db k) W' HXA.out.1 HYN.out.1 (hxs.below hb) (hys.below hb) HXA.out.2 HYN.out.2)
                      have SMH := Lib.hid SM
                      have HK := fun (w' : World) (hb : Below w5.heap.size w5 w') => (⟨bel_cell hb hxl x0, bel_cell hb hxl x1, bel_cell hb hxl x2, bel_cell hb hxl x3, bel_cell hb hxl x4, bel_cell hb hyl y0, bel_cell hb hyl y1, bel_cell hb hyl y2, bel_cell hb hyl y3, bel_cell hb hyl y4⟩ : (w'.cell? ⟨xb, xo + i * 5, none⟩ = some (.string A[i].1) ∧ w'.cell? ⟨xb, xo + i * 5 + 1, none⟩ = some (.int .i64 A[i].2.1) ∧ w'.cell? ⟨xb, xo + i * 5 + 2, none⟩ = some (.int .i64 A[i].2.2.1) ∧ w'.cell? ⟨xb, xo + i * 5 + 3, none⟩ = some (.int .i64 A[i].2.2.2.1) ∧ w'.cell? ⟨xb, xo + i * 5 + 4, none⟩ = some (da i) ∧ w'.cell? ⟨yb, yo + k * 5, none⟩ = some (.string B[k].1) ∧ w'.cell? ⟨yb, yo + k * 5 + 1, none⟩ = some (.int .i64 B[k].2.1) ∧ w'.cell? ⟨yb, yo + k * 5 + 2, none⟩ = some (.int .i64 B[k].2.2.1) ∧ w'.cell? ⟨yb, yo + k * 5 + 3, none⟩ = some (.int .i64 B[k].2.2.2.1) ∧ w'.cell? ⟨yb, yo + k * 5 + 4, none⟩ = some (db k)))
                      have HKH := Lib.hid HK
                      clear SM HK x0 x1 x2 x3 x4 y0 y1 y2 y3 y4 hxs hys
                      have tail : ∀ b : Bool, b = (sameSet A[i] B[k] && decide (A[i].2.2.2.1 = B[k].2.2.2.1)) → ∀ n', n' = (if b = true then n + 1 else n) → Hid (n' = 0 → ∀ j (h : j < B.length), j < k + 1 → ¬ (sameSet A[i] B[j] = true ∧ A[i].2.2.2.1 = B[j].2.2.2.1)) := by
                        intro b hb n' hn'
                        refine Lib.hid (fun h0 j hj hjk => ?_)
                        cases b with
                        | true => rw [if_pos rfl] at hn'; omega
                        | false =>
                          rw [if_neg (by decide)] at hn'
                          by_cases hjk' : j = k
                          · subst hjk'
                            rintro ⟨e1, e2⟩
                            rw [e1, e2] at hb
                            simp at hb
                          · exact HN.out (by omega) j hj (by omega)
                      cases hs : sameSet A[i] B[k] with
                      | false =>
                        have HT := tail false (by rw [hs]; rfl) n rfl
                        rw [hs] at SMH
                        clear tail hs
                        go_upto_region 25 with fail
                        refine wp_region_noPanic ?_
                        refine wp_region_heldN 22 rfl (S := (fun w' => w'.cell? ⟨xb, xo + i * 5, none⟩ = some (.string A[i].1) ∧ w'.cell? ⟨xb, xo + i * 5 + 1, none⟩ = some (.int .i64 A[i].2.1) ∧ w'.cell? ⟨xb, xo + i * 5 + 2, none⟩ = some (.int .i64 A[i].2.2.1) ∧ w'.cell? ⟨xb, xo + i * 5 + 3, none⟩ = some (.int .i64 A[i].2.2.2.1) ∧ w'.cell? ⟨xb, xo + i * 5 + 4, none⟩ = some (da i) ∧ w'.cell? ⟨yb, yo + k * 5, none⟩ = some (.string B[k].1) ∧ w'.cell? ⟨yb, yo + k * 5 + 1, none⟩ = some (.int .i64 B[k].2.1) ∧ w'.cell? ⟨yb, yo + k * 5 + 2, none⟩ = some (.int .i64 B[k].2.2.1) ∧ w'.cell? ⟨yb, yo + k * 5 + 3, none⟩ = some (.int .i64 B[k].2.2.2.1) ∧ w'.cell? ⟨yb, yo + k * 5 + 4, none⟩ = some (db k))) (by kernel_rfl) (HKH.out _ HW4.out.drew) (fun hHeld => ?_)
                        refine take_on 0 (some 101) (v := ?_) rfl (by rfl) (by kernel_rfl) (by kernel_rfl) (by kernel_rfl) (fun _ _ _ h => h) (by rfl) ?_ (by assumption) ?_
                        rotate_left
                        · (intro w hSw; (try dsimp only at hSw); go_simp; try with_reducible rfl)
                        try simp only [Act.put, List.setIfInBounds_toArray, List.set_cons_zero, List.set_cons_succ]
                        refine take_on 1 (some 102) (v := ?_) rfl (by rfl) (by kernel_rfl) (by kernel_rfl) (by kernel_rfl) (fun _ _ _ h => h) (by rfl) ?_ (by assumption) ?_
                        rotate_left
                        · (intro w hSw; (try dsimp only at hSw); go_simp; try with_reducible rfl)
                        try simp only [Act.put, List.setIfInBounds_toArray, List.set_cons_zero, List.set_cons_succ]
                        refine take_on 2 (some 103) (v := ?_) rfl (by rfl) (by kernel_rfl) (by kernel_rfl) (by kernel_rfl) (fun _ _ _ h => h) (by rfl) ?_ (by assumption) ?_
                        rotate_left
                        · (intro w hSw; (try dsimp only at hSw); go_simp; try with_reducible rfl)
                        try simp only [Act.put, List.setIfInBounds_toArray, List.set_cons_zero, List.set_cons_succ]
                        refine take_on 3 (some 104) (v := ?_) rfl (by rfl) (by kernel_rfl) (by kernel_rfl) (by kernel_rfl) (fun _ _ _ h => h) (by rfl) ?_ (by assumption) ?_
                        rotate_left
                        · (intro w hSw; (try dsimp only at hSw); go_simp; try with_reducible rfl)
                        try simp only [Act.put, List.setIfInBounds_toArray, List.set_cons_zero, List.set_cons_succ]
                        refine take_on 4 (some 105) (v := ?_) rfl (by rfl) (by kernel_rfl) (by kernel_rfl) (by kernel_rfl) (fun _ _ _ h => h) (by rfl) ?_ (by assumption) ?_
                        rotate_left
                        · (intro w hSw; (try dsimp only at hSw); go_simp; try with_reducible rfl)
                        try simp only [Act.put, List.setIfInBounds_toArray, List.set_cons_zero, List.set_cons_succ]
                        refine take_on 5 (some 106) (v := ?_) rfl (by rfl) (by kernel_rfl) (by kernel_rfl) (by kernel_rfl) (fun _ _ _ h => h) (by rfl) ?_ (by assumption) ?_
                        rotate_left
                        · (intro w hSw; (try dsimp only at hSw); go_simp; try with_reducible rfl)
                        try simp only [Act.put, List.setIfInBounds_toArray, List.set_cons_zero, List.set_cons_succ]
                        refine take_on 6 (some 107) (v := ?_) rfl (by rfl) (by kernel_rfl) (by kernel_rfl) (by kernel_rfl) (fun _ _ _ h => h) (by rfl) ?_ (by assumption) ?_
                        rotate_left
                        · (intro w hSw; (try dsimp only at hSw); go_simp; try with_reducible rfl)
                        try simp only [Act.put, List.setIfInBounds_toArray, List.set_cons_zero, List.set_cons_succ]
                        refine take_on 7 (some 108) (v := ?_) rfl (by rfl) (by kernel_rfl) (by kernel_rfl) (by kernel_rfl) (fun _ _ _ h => h) (by rfl) ?_ (by assumption) ?_
                        rotate_left
                        · (intro w hSw; (try dsimp only at hSw); go_simp; try with_reducible rfl)
                        try simp only [Act.put, List.setIfInBounds_toArray, List.set_cons_zero, List.set_cons_succ]
                        refine wpAnyH_ready (rs := [8]) (by kernel_rfl) (by simp) ?_
                        refine AllReadyH.cons (o := _) rfl (fun K hK => ?_) AllReadyH.nil
                        go_simp
                        go_wp2_with fail
                        refine (SMH.out _ HW4.out.drew).out.mono ?_
                        rintro e w6 ⟨rfl, xb6⟩
                        have hb1 : Below w5.heap.size w5 w6 := HW4.out.drew.trans (xb6.mono HW4.out.drew.size)
                        go_simp
                        refine hK.out _ _ (HKH.out _ hb1) (fun hHeld2 => ?_)
                        clear hK K
                        try simp only [Act.put, List.setIfInBounds_toArray, List.set_cons_zero, List.set_cons_succ]
                        refine take_on 9 (some 110) (v := ?_) rfl (by rfl) (by kernel_rfl) (by kernel_rfl) (by kernel_rfl) (fun _ _ _ h => h) (by rfl) ?_ (by assumption) ?_
                        rotate_left
                        · (intro w hSw; (try dsimp only at hSw); go_simp; try with_reducible rfl)
                        try simp only [Act.put, List.setIfInBounds_toArray, List.set_cons_zero, List.set_cons_succ]
                        refine take_off 10 (some 111) rfl (by rfl) (by kernel_rfl) (by kernel_rfl) (by kernel_rfl) (fun _ _ _ h => h) (by rfl) (by assumption) ?_
                        try simp only [Act.put, List.setIfInBounds_toArray, List.set_cons_zero, List.set_cons_succ]
                        refine take_off 11 (some 112) rfl (by rfl) (by kernel_rfl) (by kernel_rfl) (by kernel_rfl) (fun _ _ _ h => h) (by rfl) (by assumption) ?_
                        try simp only [Act.put, List.setIfInBounds_toArray, List.set_cons_zero, List.set_cons_succ]
                        refine take_off 12 (some 113) rfl (by rfl) (by kernel_rfl) (by kernel_rfl) (by kernel_rfl) (fun _ _ _ h => h) (by rfl) (by assumption) ?_
                        try simp only [Act.put, List.setIfInBounds_toArray, List.set_cons_zero, List.set_cons_succ]
                        refine take_off 13 (some 114) rfl (by rfl) (by kernel_rfl) (by kernel_rfl) (by kernel_rfl) (fun _ _ _ h => h) (by rfl) (by assumption) ?_
                        try simp only [Act.put, List.setIfInBounds_toArray, List.set_cons_zero, List.set_cons_succ]
                        refine take_off 14 (some 115) rfl (by rfl) (by kernel_rfl) (by kernel_rfl) (by kernel_rfl) (fun _ _ _ h => h) (by rfl) (by assumption) ?_
                        try simp only [Act.put, List.setIfInBounds_toArray, List.set_cons_zero, List.set_cons_succ]
                        refine take_off 15 (some 116) rfl (by rfl) (by kernel_rfl) (by kernel_rfl) (by kernel_rfl) (fun _ _ _ h => h) (by rfl) (by assumption) ?_
                        try simp only [Act.put, List.setIfInBounds_toArray, List.set_cons_zero, List.set_cons_succ]
                        refine take_off 16 (some 117) rfl (by rfl) (by kernel_rfl) (by kernel_rfl) (by kernel_rfl) (fun _ _ _ h => h) (by rfl) (by assumption) ?_
                        try simp only [Act.put, List.setIfInBounds_toArray, List.set_cons_zero, List.set_cons_succ]
                        refine take_off 17 (some 118) rfl (by rfl) (by kernel_rfl) (by kernel_rfl) (by kernel_rfl) (fun _ _ _ h => h) (by rfl) (by assumption) ?_
                        try simp only [Act.put, List.setIfInBounds_toArray, List.set_cons_zero, List.set_cons_succ]
                        refine take_off 18 (some 119) rfl (by rfl) (by kernel_rfl) (by kernel_rfl) (by kernel_rfl) (fun _ _ _ h => h) (by rfl) (by assumption) ?_
                        try simp only [Act.put, List.setIfInBounds_toArray, List.set_cons_zero, List.set_cons_succ]
                        refine take_off 19 (some 120) rfl (by rfl) (by kernel_rfl) (by kernel_rfl) (by kernel_rfl) (fun _ _ _ h => h) (by rfl) (by assumption) ?_
                        try simp only [Act.put, List.setIfInBounds_toArray, List.set_cons_zero, List.set_cons_succ]
                        refine take_off 20 (some 121) rfl (by rfl) (by kernel_rfl) (by kernel_rfl) (by kernel_rfl) (fun _ _ _ h => h) (by rfl) (by assumption) ?_
                        try simp only [Act.put, List.setIfInBounds_toArray, List.set_cons_zero, List.set_cons_succ]
                        refine take_on 21 (some 122) (v := ?_) rfl (by rfl) (by kernel_rfl) (by kernel_rfl) (by kernel_rfl) (fun _ _ _ h => h) (by rfl) ?_ (by assumption) ?_
                        rotate_left
                        · (intro w hSw; (try dsimp only at hSw); go_simp; try with_reducible rfl)
                        try simp only [Act.put, List.setIfInBounds_toArray, List.set_cons_zero, List.set_cons_succ]
                        refine wpAnyH_done (by kernel_rfl) ?_ _
                        refine NoPanic.normal ?_
                        go_wp2_with fail
                        go_roundw
                        case rel => exact ⟨n, k + 1, by omega, by omega, by first | rfl | go_num, by go_num, HT, Lib.hid hb1⟩
                        case measure => simp [intOf]; omega
                      | true =>
                        cases hq : (A[i].2.2.2.1 == B[k].2.2.2.1) with
                        | false =>
                          have HT := tail false (by rw [hs]; simp only [beq_eq_false_iff_ne] at hq; simp [hq]) n rfl
                          rw [hs] at SMH
                          clear tail hs
                          go_upto_region 25 with fail
                          refine wp_region_noPanic ?_
                          refine wp_region_heldN 22 rfl (S := (fun w' => w'.cell? ⟨xb, xo + i * 5, none⟩ = some (.string A[i].1) ∧ w'.cell? ⟨xb, xo + i * 5 + 1, none⟩ = some (.int .i64 A[i].2.1) ∧ w'.cell? ⟨xb, xo + i * 5 + 2, none⟩ = some (.int .i64 A[i].2.2.1) ∧ w'.cell? ⟨xb, xo + i * 5 + 3, none⟩ = some (.int .i64 A[i].2.2.2.1) ∧ w'.cell? ⟨xb, xo + i * 5 + 4, none⟩ = some (da i) ∧ w'.cell? ⟨yb, yo + k * 5, none⟩ = some (.string B[k].1) ∧ w'.cell? ⟨yb, yo + k * 5 + 1, none⟩ = some (.int .i64 B[k].2.1) ∧ w'.cell? ⟨yb, yo + k * 5 + 2, none⟩ = some (.int .i64 B[k].2.2.1) ∧ w'.cell? ⟨yb, yo + k * 5 + 3, none⟩ = some (.int .i64 B[k].2.2.2.1) ∧ w'.cell? ⟨yb, yo + k * 5 + 4, none⟩ = some (db k))) (by kernel_rfl) (HKH.out _ HW4.out.drew) (fun hHeld => ?_)
                          refine take_on 0 (some 101) (v := ?_) rfl (by rfl) (by kernel_rfl) (by kernel_rfl) (by kernel_rfl) (fun _ _ _ h => h) (by rfl) ?_ (by assumption) ?_
                          rotate_left
                          · (intro w hSw; (try dsimp only at hSw); go_simp; try with_reducible rfl)
                          try simp only [Act.put, List.setIfInBounds_toArray, List.set_cons_zero, List.set_cons_succ]
                          refine take_on 1 (some 102) (v := ?_) rfl (by rfl) (by kernel_rfl) (by kernel_rfl) (by kernel_rfl) (fun _ _ _ h => h) (by rfl) ?_ (by assumption) ?_
                          rotate_left
                          · (intro w hSw; (try dsimp only at hSw); go_simp; try with_reducible rfl)
                          try simp only [Act.put, List.setIfInBounds_toArray, List.set_cons_zero, List.set_cons_succ]
                          refine take_on 2 (some 103) (v := ?_) rfl (by rfl) (by kernel_rfl) (by kernel_rfl) (by kernel_rfl) (fun _ _ _ h => h) (by rfl) ?_ (by assumption) ?_
                          rotate_left
                          · (intro w hSw; (try dsimp only at hSw); go_simp; try with_reducible rfl)
                          try simp only [Act.put, List.setIfInBounds_toArray, List.set_cons_zero, List.set_cons_succ]
                          refine take_on 3 (some 104) (v := ?_) rfl (by rfl) (by kernel_rfl) (by kernel_rfl) (by kernel_rfl) (fun _ _ _ h => h) (by rfl) ?_ (by assumption) ?_
                          rotate_left
                          · (intro w hSw; (try dsimp only at hSw); go_simp; try with_reducible rfl)
                          try simp only [Act.put, List.setIfInBounds_toArray, List.set_cons_zero, List.set_cons_succ]
                          refine take_on 4 (some 105) (v := ?_) rfl (by rfl) (by kernel_rfl) (by kernel_rfl) (by kernel_rfl) (fun _ _ _ h => h) (by rfl) ?_ (by assumption) ?_
                          rotate_left
                          · (intro w hSw; (try dsimp only at hSw); go_simp; try with_reducible rfl)
                          try simp only [Act.put, List.setIfInBounds_toArray, List.set_cons_zero, List.set_cons_succ]
                          refine take_on 5 (some 106) (v := ?_) rfl (by rfl) (by kernel_rfl) (by kernel_rfl) (by kernel_rfl) (fun _ _ _ h => h) (by rfl) ?_ (by assumption) ?_
                          rotate_left
                          · (intro w hSw; (try dsimp only at hSw); go_simp; try with_reducible rfl)
                          try simp only [Act.put, List.setIfInBounds_toArray, List.set_cons_zero, List.set_cons_succ]
                          refine take_on 6 (some 107) (v := ?_) rfl (by rfl) (by kernel_rfl) (by kernel_rfl) (by kernel_rfl) (fun _ _ _ h => h) (by rfl) ?_ (by assumption) ?_
                          rotate_left
                          · (intro w hSw; (try dsimp only at hSw); go_simp; try with_reducible rfl)
                          try simp only [Act.put, List.setIfInBounds_toArray, List.set_cons_zero, List.set_cons_succ]
                          refine take_on 7 (some 108) (v := ?_) rfl (by rfl) (by kernel_rfl) (by kernel_rfl) (by kernel_rfl) (fun _ _ _ h => h) (by rfl) ?_ (by assumption) ?_
                          rotate_left
                          · (intro w hSw; (try dsimp only at hSw); go_simp; try with_reducible rfl)
                          try simp only [Act.put, List.setIfInBounds_toArray, List.set_cons_zero, List.set_cons_succ]
                          refine wpAnyH_ready (rs := [8]) (by kernel_rfl) (by simp) ?_
                          refine AllReadyH.cons (o := _) rfl (fun K hK => ?_) AllReadyH.nil
                          go_simp
                          go_wp2_with fail
                          refine (SMH.out _ HW4.out.drew).out.mono ?_
                          rintro e w6 ⟨rfl, xb6⟩
                          have hb1 : Below w5.heap.size w5 w6 := HW4.out.drew.trans (xb6.mono HW4.out.drew.size)
                          go_simp
                          refine hK.out _ _ (HKH.out _ hb1) (fun hHeld2 => ?_)
                          clear hK K
                          try simp only [Act.put, List.setIfInBounds_toArray, List.set_cons_zero, List.set_cons_succ]
                          refine take_on 9 (some 110) (v := ?_) rfl (by rfl) (by kernel_rfl) (by kernel_rfl) (by kernel_rfl) (fun _ _ _ h => h) (by rfl) ?_ (by assumption) ?_
                          rotate_left
                          · (intro w hSw; (try dsimp only at hSw); go_simp; try with_reducible rfl)
                          try simp only [Act.put, List.setIfInBounds_toArray, List.set_cons_zero, List.set_cons_succ]
                          refine take_on 10 (some 111) (v := ?_) rfl (by rfl) (by kernel_rfl) (by kernel_rfl) (by kernel_rfl) (fun _ _ _ h => h) (by rfl) ?_ (by assumption) ?_
                          rotate_left
                          · (intro w hSw; (try dsimp only at hSw); go_simp; try with_reducible rfl)
                          try simp only [Act.put, List.setIfInBounds_toArray, List.set_cons_zero, List.set_cons_succ]
                          refine take_on 11 (some 112) (v := ?_) rfl (by rfl) (by kernel_rfl) (by kernel_rfl) (by kernel_rfl) (fun _ _ _ h => h) (by rfl) ?_ (by assumption) ?_
                          rotate_left
                          · (intro w hSw; (try dsimp only at hSw); go_simp; try with_reducible rfl)
                          try simp only [Act.put, List.setIfInBounds_toArray, List.set_cons_zero, List.set_cons_succ]
                          refine take_on 12 (some 113) (v := ?_) rfl (by rfl) (by kernel_rfl) (by kernel_rfl) (by kernel_rfl) (fun _ _ _ h => h) (by rfl) ?_ (by assumption) ?_
                          rotate_left
                          · (intro w hSw; (try dsimp only at hSw); go_simp; try with_reducible rfl)
                          try simp only [Act.put, List.setIfInBounds_toArray, List.set_cons_zero, List.set_cons_succ]
                          refine take_on 13 (some 114) (v := ?_) rfl (by rfl) (by kernel_rfl) (by kernel_rfl) (by kernel_rfl) (fun _ _ _ h => h) (by rfl) ?_ (by assumption) ?_
                          rotate_left
                          · (intro w hSw; (try dsimp only at hSw); go_simp; try with_reducible rfl)
                          try simp only [Act.put, List.setIfInBounds_toArray, List.set_cons_zero, List.set_cons_succ]
                          refine take_on 14 (some 115) (v := ?_) rfl (by rfl) (by kernel_rfl) (by kernel_rfl) (by kernel_rfl) (fun _ _ _ h => h) (by rfl) ?_ (by assumption) ?_
                          rotate_left
                          · (intro w hSw; (try dsimp only at hSw); go_simp; try with_reducible rfl)
                          try simp only [Act.put, List.setIfInBounds_toArray, List.set_cons_zero, List.set_cons_succ]
                          refine take_on 15 (some 116) (v := ?_) rfl (by rfl) (by kernel_rfl) (by kernel_rfl) (by kernel_rfl) (fun _ _ _ h => h) (by rfl) ?_ (by assumption) ?_
                          rotate_left
                          · (intro w hSw; (try dsimp only at hSw); go_simp; try with_reducible rfl)
                          try simp only [Act.put, List.setIfInBounds_toArray, List.set_cons_zero, List.set_cons_succ]
                          refine take_on 16 (some 117) (v := ?_) rfl (by rfl) (by kernel_rfl) (by kernel_rfl) (by kernel_rfl) (fun _ _ _ h => h) (by rfl) ?_ (by assumption) ?_
                          rotate_left
                          · (intro w hSw; (try dsimp only at hSw); go_simp; try with_reducible rfl)
                          try simp only [Act.put, List.setIfInBounds_toArray, List.set_cons_zero, List.set_cons_succ]
                          refine take_on 17 (some 118) (v := ?_) rfl (by rfl) (by kernel_rfl) (by kernel_rfl) (by kernel_rfl) (fun _ _ _ h => h) (by rfl) ?_ (by assumption) ?_
                          rotate_left
                          · (intro w hSw; (try dsimp only at hSw); go_simp; try with_reducible rfl)
                          try simp only [Act.put, List.setIfInBounds_toArray, List.set_cons_zero, List.set_cons_succ]
                          refine take_on 18 (some 119) (v := ?_) rfl (by rfl) (by kernel_rfl) (by kernel_rfl) (by kernel_rfl) (fun _ _ _ h => h) (by rfl) ?_ (by assumption) ?_
                          rotate_left
                          · (intro w hSw; (try dsimp only at hSw); go_simp; try with_reducible rfl)
                          try simp only [Act.put, List.setIfInBounds_toArray, List.set_cons_zero, List.set_cons_succ]
                          refine take_on 19 (some 120) (v := ?_) rfl (by rfl) (by kernel_rfl) (by kernel_rfl) (by kernel_rfl) (fun _ _ _ h => h) (by rfl) ?_ (by assumption) ?_
                          rotate_left
                          · (intro w hSw; (try dsimp only at hSw); go_simp; try with_reducible rfl)
                          try simp only [Act.put, List.setIfInBounds_toArray, List.set_cons_zero, List.set_cons_succ]
                          refine take_on 20 (some 121) (v := ?_) rfl (by rfl) (by kernel_rfl) (by kernel_rfl) (by kernel_rfl) (fun _ _ _ h => h) (by rfl) ?_ (by assumption) ?_
                          rotate_left
                          · (intro w hSw; (try dsimp only at hSw); go_simp; try with_reducible rfl)
                          try simp only [Act.put, List.setIfInBounds_toArray, List.set_cons_zero, List.set_cons_succ]
                          refine take_on 21 (some 122) (v := ?_) rfl (by rfl) (by kernel_rfl) (by kernel_rfl) (by kernel_rfl) (fun _ _ _ h => h) (by rfl) ?_ (by assumption) ?_
                          rotate_left
                          · (intro w hSw; (try dsimp only at hSw); go_simp; try with_reducible rfl)
                          try simp only [Act.put, List.setIfInBounds_toArray, List.set_cons_zero, List.set_cons_succ]
                          refine wpAnyH_done (by kernel_rfl) ?_ _
                          refine NoPanic.normal ?_
                          go_wp2_with fail
                          go_roundw
                          case rel => exact ⟨n, k + 1, by omega, by omega, by first | rfl | go_num, by go_num, HT, Lib.hid hb1⟩
                          case measure => simp [intOf]; omega
                        | true =>
                          have HT := tail true (by rw [hs]; simp only [beq_iff_eq] at hq; simp [hq]) (n + 1) rfl
                          rw [hs] at SMH
                          clear tail hs
                          go_upto_region 25 with fail
                          refine wp_region_noPanic ?_
                          refine wp_region_heldN 22 rfl (S := (fun w' => w'.cell? ⟨xb, xo + i * 5, none⟩ = some (.string A[i].1) ∧ w'.cell? ⟨xb, xo + i * 5 + 1, none⟩ = some (.int .i64 A[i].2.1) ∧ w'.cell? ⟨xb, xo + i * 5 + 2, none⟩ = some (.int .i64 A[i].2.2.1) ∧ w'.cell? ⟨xb, xo + i * 5 + 3, none⟩ = some (.int .i64 A[i].2.2.2.1) ∧ w'.cell? ⟨xb, xo + i * 5 + 4, none⟩ = some (da i) ∧ w'.cell? ⟨yb, yo + k * 5, none⟩ = some (.string B[k].1) ∧ w'.cell? ⟨yb, yo + k * 5 + 1, none⟩ = some (.int .i64 B[k].2.1) ∧ w'.cell? ⟨yb, yo + k * 5 + 2, none⟩ = some (.int .i64 B[k].2.2.1) ∧ w'.cell? ⟨yb, yo + k * 5 + 3, none⟩ = some (.int .i64 B[k].2.2.2.1) ∧ w'.cell? ⟨yb, yo + k * 5 + 4, none⟩ = some (db k))) (by kernel_rfl) (HKH.out _ HW4.out.drew) (fun hHeld => ?_)
                          refine take_on 0 (some 101) (v := ?_) rfl (by rfl) (by kernel_rfl) (by kernel_rfl) (by kernel_rfl) (fun _ _ _ h => h) (by rfl) ?_ (by assumption) ?_
                          rotate_left
                          · (intro w hSw; (try dsimp only at hSw); go_simp; try with_reducible rfl)
                          try simp only [Act.put, List.setIfInBounds_toArray, List.set_cons_zero, List.set_cons_succ]
                          refine take_on 1 (some 102) (v := ?_) rfl (by rfl) (by kernel_rfl) (by kernel_rfl) (by kernel_rfl) (fun _ _ _ h => h) (by rfl) ?_ (by assumption) ?_
                          rotate_left
                          · (intro w hSw; (try dsimp only at hSw); go_simp; try with_reducible rfl)
                          try simp only [Act.put, List.setIfInBounds_toArray, List.set_cons_zero, List.set_cons_succ]
                          refine take_on 2 (some 103) (v := ?_) rfl (by rfl) (by kernel_rfl) (by kernel_rfl) (by kernel_rfl) (fun _ _ _ h => h) (by rfl) ?_ (by assumption) ?_
                          rotate_left
                          · (intro w hSw; (try dsimp only at hSw); go_simp; try with_reducible rfl)
                          try simp only [Act.put, List.setIfInBounds_toArray, List.set_cons_zero, List.set_cons_succ]
                          refine take_on 3 (some 104) (v := ?_) rfl (by rfl) (by kernel_rfl) (by kernel_rfl) (by kernel_rfl) (fun _ _ _ h => h) (by rfl) ?_ (by assumption) ?_
                          rotate_left
                          · (intro w hSw; (try dsimp only at hSw); go_simp; try with_reducible rfl)
                          try simp only [Act.put, List.setIfInBounds_toArray, List.set_cons_zero, List.set_cons_succ]
                          refine take_on 4 (some 105) (v := ?_) rfl (by rfl) (by kernel_rfl) (by kernel_rfl) (by kernel_rfl) (fun _ _ _ h => h) (by rfl) ?_ (by assumption) ?_
                          rotate_left
                          · (intro w hSw; (try dsimp only at hSw); go_simp; try with_reducible rfl)
                          try simp only [Act.put, List.setIfInBounds_toArray, List.set_cons_zero, List.set_cons_succ]
                          refine take_on 5 (some 106) (v := ?_) rfl (by rfl) (by kernel_rfl) (by kernel_rfl) (by kernel_rfl) (fun _ _ _ h => h) (by rfl) ?_ (by assumption) ?_
                          rotate_left
                          · (intro w hSw; (try dsimp only at hSw); go_simp; try with_reducible rfl)
                          try simp only [Act.put, List.setIfInBounds_toArray, List.set_cons_zero, List.set_cons_succ]
                          refine take_on 6 (some 107) (v := ?_) rfl (by rfl) (by kernel_rfl) (by kernel_rfl) (by kernel_rfl) (fun _ _ _ h => h) (by rfl) ?_ (by assumption) ?_
                          rotate_left
                          · (intro w hSw; (try dsimp only at hSw); go_simp; try with_reducible rfl)
                          try simp only [Act.put, List.setIfInBounds_toArray, List.set_cons_zero, List.set_cons_succ]
                          refine take_on 7 (some 108) (v := ?_) rfl (by rfl) (by kernel_rfl) (by kernel_rfl) (by kernel_rfl) (fun _ _ _ h => h) (by rfl) ?_ (by assumption) ?_
                          rotate_left
                          · (intro w hSw; (try dsimp only at hSw); go_simp; try with_reducible rfl)
                          try simp only [Act.put, List.setIfInBounds_toArray, List.set_cons_zero, List.set_cons_succ]
                          refine wpAnyH_ready (rs := [8]) (by kernel_rfl) (by simp) ?_
                          refine AllReadyH.cons (o := _) rfl (fun K hK => ?_) AllReadyH.nil
                          go_simp
                          go_wp2_with fail
                          refine (SMH.out _ HW4.out.drew).out.mono ?_
                          rintro e w6 ⟨rfl, xb6⟩
                          have hb1 : Below w5.heap.size w5 w6 := HW4.out.drew.trans (xb6.mono HW4.out.drew.size)
                          go_simp
                          refine hK.out _ _ (HKH.out _ hb1) (fun hHeld2 => ?_)
                          clear hK K
                          try simp only [Act.put, List.setIfInBounds_toArray, List.set_cons_zero, List.set_cons_succ]
                          refine take_on 9 (some 110) (v := ?_) rfl (by rfl) (by kernel_rfl) (by kernel_rfl) (by kernel_rfl) (fun _ _ _ h => h) (by rfl) ?_ (by assumption) ?_
                          rotate_left
                          · (intro w hSw; (try dsimp only at hSw); go_simp; try with_reducible rfl)
                          try simp only [Act.put, List.setIfInBounds_toArray, List.set_cons_zero, List.set_cons_succ]
                          refine take_on 10 (some 111) (v := ?_) rfl (by rfl) (by kernel_rfl) (by kernel_rfl) (by kernel_rfl) (fun _ _ _ h => h) (by rfl) ?_ (by assumption) ?_
                          rotate_left
                          · (intro w hSw; (try dsimp only at hSw); go_simp; try with_reducible rfl)
                          try simp only [Act.put, List.setIfInBounds_toArray, List.set_cons_zero, List.set_cons_succ]
                          refine take_on 11 (some 112) (v := ?_) rfl (by rfl) (by kernel_rfl) (by kernel_rfl) (by kernel_rfl) (fun _ _ _ h => h) (by rfl) ?_ (by assumption) ?_
                          rotate_left
                          · (intro w hSw; (try dsimp only at hSw); go_simp; try with_reducible rfl)
                          try simp only [Act.put, List.setIfInBounds_toArray, List.set_cons_zero, List.set_cons_succ]
                          refine take_on 12 (some 113) (v := ?_) rfl (by rfl) (by kernel_rfl) (by kernel_rfl) (by kernel_rfl) (fun _ _ _ h => h) (by rfl) ?_ (by assumption) ?_
                          rotate_left
                          · (intro w hSw; (try dsimp only at hSw); go_simp; try with_reducible rfl)
                          try simp only [Act.put, List.setIfInBounds_toArray, List.set_cons_zero, List.set_cons_succ]
                          refine take_on 13 (some 114) (v := ?_) rfl (by rfl) (by kernel_rfl) (by kernel_rfl) (by kernel_rfl) (fun _ _ _ h => h) (by rfl) ?_ (by assumption) ?_
                          rotate_left
                          · (intro w hSw; (try dsimp only at hSw); go_simp; try with_reducible rfl)
                          try simp only [Act.put, List.setIfInBounds_toArray, List.set_cons_zero, List.set_cons_succ]
                          refine take_on 14 (some 115) (v := ?_) rfl (by rfl) (by kernel_rfl) (by kernel_rfl) (by kernel_rfl) (fun _ _ _ h => h) (by rfl) ?_ (by assumption) ?_
                          rotate_left
                          · (intro w hSw; (try dsimp only at hSw); go_simp; try with_reducible rfl)
                          try simp only [Act.put, List.setIfInBounds_toArray, List.set_cons_zero, List.set_cons_succ]
                          refine take_on 15 (some 116) (v := ?_) rfl (by rfl) (by kernel_rfl) (by kernel_rfl) (by kernel_rfl) (fun _ _ _ h => h) (by rfl) ?_ (by assumption) ?_
                          rotate_left
                          · (intro w hSw; (try dsimp only at hSw); go_simp; try with_reducible rfl)
                          try simp only [Act.put, List.setIfInBounds_toArray, List.set_cons_zero, List.set_cons_succ]
                          refine take_on 16 (some 117) (v := ?_) rfl (by rfl) (by kernel_rfl) (by kernel_rfl) (by kernel_rfl) (fun _ _ _ h => h) (by rfl) ?_ (by assumption) ?_
                          rotate_left
                          · (intro w hSw; (try dsimp only at hSw); go_simp; try with_reducible rfl)
                          try simp only [Act.put, List.setIfInBounds_toArray, List.set_cons_zero, List.set_cons_succ]
                          refine take_on 17 (some 118) (v := ?_) rfl (by rfl) (by kernel_rfl) (by kernel_rfl) (by kernel_rfl) (fun _ _ _ h => h) (by rfl) ?_ (by assumption) ?_
                          rotate_left
                          · (intro w hSw; (try dsimp only at hSw); go_simp; try with_reducible rfl)
                          try simp only [Act.put, List.setIfInBounds_toArray, List.set_cons_zero, List.set_cons_succ]
                          refine take_on 18 (some 119) (v := ?_) rfl (by rfl) (by kernel_rfl) (by kernel_rfl) (by kernel_rfl) (fun _ _ _ h => h) (by rfl) ?_ (by assumption) ?_
                          rotate_left
                          · (intro w hSw; (try dsimp only at hSw); go_simp; try with_reducible rfl)
                          try simp only [Act.put, List.setIfInBounds_toArray, List.set_cons_zero, List.set_cons_succ]
                          refine take_on 19 (some 120) (v := ?_) rfl (by rfl) (by kernel_rfl) (by kernel_rfl) (by kernel_rfl) (fun _ _ _ h => h) (by rfl) ?_ (by assumption) ?_
                          rotate_left
                          · (intro w hSw; (try dsimp only at hSw); go_simp; try with_reducible rfl)
                          try simp only [Act.put, List.setIfInBounds_toArray, List.set_cons_zero, List.set_cons_succ]
                          refine take_on 20 (some 121) (v := ?_) rfl (by rfl) (by kernel_rfl) (by kernel_rfl) (by kernel_rfl) (fun _ _ _ h => h) (by rfl) ?_ (by assumption) ?_
                          rotate_left
                          · (intro w hSw; (try dsimp only at hSw); go_simp; try with_reducible rfl)
                          try simp only [Act.put, List.setIfInBounds_toArray, List.set_cons_zero, List.set_cons_succ]
                          refine take_on 21 (some 122) (v := ?_) rfl (by rfl) (by kernel_rfl) (by kernel_rfl) (by kernel_rfl) (fun _ _ _ h => h) (by rfl) ?_ (by assumption) ?_
                          rotate_left
                          · (intro w hSw; (try dsimp only at hSw); go_simp; try with_reducible rfl)
                          try simp only [Act.put, List.setIfInBounds_toArray, List.set_cons_zero, List.set_cons_succ]
                          refine wpAnyH_done (by kernel_rfl) ?_ _
                          refine NoPanic.normal ?_
                          go_wp2_with fail
                          go_roundw
                          case rel => exact ⟨n + 1, k + 1, by omega, by omega, by first | rfl | go_num, by go_num, HT, Lib.hid hb1⟩
                          case measure => simp [intOf]; omega
                    · have hkB : k = B.length := by omega
                      subst hkB
                      have hkl' : ¬ ((B.length : Int) < (B.length : Int)) := by omega
                      have hn1 : ¬ ((n : Int) < 1) := by
                        intro hn0
                        obtain ⟨t', ht', h1, h2⟩ := HXL.out
                        obtain ⟨j, hj, rfl⟩ := List.mem_iff_getElem.1 ht'
                        exact HN.out (by omega) j hj hj ⟨h1, h2⟩
                      go_wp2_with fail
                      go_roundw
                      case rel => exact ⟨i + 1, by omega, by go_num, HW4⟩
                      case measure => simp [intOf]; omega
                · have hiA : i = A.length := by omega
                  subst hiA
                  have hil' : ¬ ((A.length : Int) < (A.length : Int)) := by omega
                  go_wp2_with fail
                  refine (least_ok _ A _ (HSA.out.below HW3.out) (by omega)).mono ?_
                  rintro e w6 ⟨rfl, b6⟩
                  go_wp2_with fail
                  have hb6 := HW3.out.trans (b6.mono HW3.out.size)
                  refine (least_ok _ B _ (HSB.out.below hb6) (by omega)).mono ?_
                  rintro e w7 ⟨rfl, b7⟩
                  have hle : (leastS A == leastS B) = true := by rw [HLE.out]; simp
                  go_wp2_with fail
                  exact HR.out _ _ ⟨rfl, HBB.out.trans ((hb6.trans (b7.mono hb6.size)).mono HBB.out.size)⟩
end Go.Proofs.Ytpijbdddegbjbaa
