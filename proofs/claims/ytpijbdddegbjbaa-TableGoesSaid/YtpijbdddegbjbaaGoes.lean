/- The walk of ostiarylaw20.TableGoes. Condition: the acts lie as ActsAt says. -/
import Derived.Test.YtpijbdddegbjbaaGoesP
import Derived.Deep.RegionHeld3
import Derived.Test.YtpijbdddegbjbaaTailQ
namespace Go.Proofs.Ytpijbdddegbjbaa
open Go.RowKit Go.Proofs Go.Sort
structure GoesIs (w wr : World) (tb mb ib : Nat) (most : Int) (l : Tab) (il : List (Int × Bool)) : Prop where
  tab : TableAt wr tb mb most l
  idle : MapIs wr ib encInt Value.bool il
  below : Below w.heap.size w wr
  wf : IntsWf l
  len : (l.length : Int) ≤ most
  flags : Flags l il
theorem GoesIs.step {w wr w' : World} {tb mb ib : Nat} {most : Int} {l : Tab} {il : List (Int × Bool)} (h : GoesIs w wr tb mb ib most l il) (hb : Below wr.heap.size wr w') : GoesIs w w' tb mb ib most l il :=
  ⟨h.tab.below hb (blk_lt h.tab.1) h.tab.2.1.lt, h.idle.below hb h.idle.lt, h.below.trans (hb.mono h.below.size), h.wf, h.len, h.flags⟩
theorem touch_cases (most : Int) (l : Tab) (k now : Int) : touchM most l k now = ((0, false, 2), l) ∨ (∃ c, mget l k = some c ∧ touchM most l k now = ((0, false, 0), mput l k (max c.1 now, c.2))) ∨
    (mget l k = none ∧ (l.length : Int) < most ∧ touchM most l k now = ((0, false, 0), mput l k (now, false))) ∨
    (mget l k = none ∧ ¬ (l.length : Int) < most ∧ goesF l = none ∧ touchM most l k now = ((0, false, 8), l)) ∨
    (∃ o, mget l k = none ∧ ¬ (l.length : Int) < most ∧ goesF l = some o ∧ touchM most l k now = ((o, true, 0), mput (mdel l o) k (now, false))) := by
  unfold touchM
  by_cases h : now < 0 ∨ 1099511627776 < now
  · left; rw [if_pos h]
  · right
    rw [if_neg h]
    cases hg : mget l k with
    | some c => exact .inl ⟨c, rfl, rfl⟩
    | none =>
      right
      by_cases h2 : (l.length : Int) < most
      · left; simp [h2]
      · right
        cases hF : goesF l with
        | none => left; simp [h2]
        | some o => right; exact ⟨o, rfl, h2, rfl, by simp [h2]⟩
/-- What Idle does. -/
def idleM (l : Tab) (c : Int) (is : Bool) : Int × Tab := match mget l c with
  | none => (6, l)
  | some x => (0, mput l c (x.1, is))
theorem idle_all (tb mb : Nat) (most : Int) (l : Tab) (k : Int) (is : Bool) (w : World) (h : TableAt w tb mb most l) (hm : most ≠ 0) :
    Calls Try.prog 39 #[.pointer (some ⟨tb, 0, none⟩), .int .i64 k, .bool is] w fun e w' => e = .returned (.int .i64 (idleM l k is).1) ∧ TableAt w' tb mb most (idleM l k is).2 ∧ w.grownBy w' (some mb) := by
  unfold idleM
  cases hg : mget l k with
  | none =>
    refine (idle_no tb mb most l k is w h hm hg).mono ?_
    rintro e w' ⟨rfl, hb⟩
    exact ⟨rfl, h.below hb (blk_lt h.1) h.2.1.lt, grown_of_below hb⟩
  | some x => exact idle_ok tb mb most l k is w h hm x.1 x.2 hg
theorem tabDrew {w : World} {tb mb : Nat} {most : Int} {l : Tab} (h : TableAt w tb mb most l) : TableAt w.drew tb mb most l := h
theorem grown_drew {w w' : World} {b : Option Nat} (h : w.drew.grownBy w' b) : w.grownBy w' b := ⟨h.os, h.tape, h.output, h.size, h.block⟩
theorem idleM_has (l : Tab) (c : Int) (is : Bool) : (mget (idleM l c is).2 c).isSome = (mget l c).isSome := by
  unfold idleM
  cases hg : mget l c with
  | none => simp [hg]
  | some x => simp [mget_put_same]
theorem idleM_zero (l : Tab) (c : Int) (is : Bool) : ((idleM l c is).1 == 0) = (mget l c).isSome := by
  unfold idleM
  cases hg : mget l c <;> simp
set_option maxRecDepth 100000 in
set_option maxHeartbeats 4000000 in
theorem goesLaw_ok (w : World) (most : Int) (v : Value) (acts : List ActM) (hA : ActsAt w v acts) :
    Calls Try.prog 8 #[.int .i64 most, v] w fun e w' => e = .returned (.bool true) ∧ Below w.heap.size w w' := by
  have hk := known20_ok w
  obtain ⟨ao, cap, rfl, hA⟩ := hA
  have HA := Lib.hid hA
  clear hA
  generalize hN : acts.length = n
  have HN := Lib.hid hN
  clear hN
  refine hideR fun R' HR => ?_
  by_cases hbad : most < 1 ∨ 1024 < most
  · go_enter Try.func8, Try.ntmps8
    go_wp2_with fail
    refine hk.mono ?_
    rintro e w1 ⟨rfl, hb1⟩
    have hn := new_bad most w1 hbad
    clear hk
    go_wp2_with fail
    refine hn.mono ?_
    rintro e w2 ⟨rfl, hb2⟩
    have HB := Lib.hid (hb1.trans (hb2.mono hb1.size))
    clear hn hb1 hb2
    go_wp2
    exact HR.out _ _ ⟨rfl, HB.out⟩
  · have hm1 : 1 ≤ most := by omega
    have hm2 : most ≤ 1024 := by omega
    go_enter Try.func8, Try.ntmps8
    go_wp2_with fail
    refine hk.mono ?_
    rintro e w1 ⟨rfl, hb1⟩
    have hn := new_ok most w1 (by omega) (by omega)
    clear hk
    go_wp2_with fail
    refine hn.mono ?_
    rintro e w2 ⟨tb, mb, rfl, h2, htb, hmb, hb2⟩
    have HB := Lib.hid (hb1.trans (hb2.mono hb1.size))
    have HT := Lib.hid h2
    have htb' : w.heap.size ≤ tb := Nat.le_trans hb1.size htb
    have hmb' : w.heap.size ≤ mb := Nat.le_trans hb1.size hmb
    clear hn hb1 hb2 h2 htb hmb
    by_cases hlong : 150 < n
    · have hl : ((150 : Int) < (n : Int)) := by omega
      go_wp2
      exact HR.out _ _ ⟨rfl, HB.out⟩
    · have hl : ¬ ((150 : Int) < (n : Int)) := by omega
      have hmm := @run_makeMap Try.prog
      go_wp2_with fail
      clear hmm
      have hti : tb < w2.heap.size := blk_lt HT.out.1
      have hmi : mb < w2.heap.size := HT.out.2.1.lt
      have HG : Hid (GoesIs w (w2.alloc (.map #[] 0)) tb mb w2.heap.size most [] []) := by
        have hb := (Below.refl w2.heap.size w2).alloc (Nat.le_refl _) (.map #[] 0)
        exact ⟨HT.out.below hb hti hmi, MapIs.made w2 encInt Value.bool, HB.out.trans (hb.mono HB.out.size), by intro p hp; simp at hp, by simp; omega, by intro k; rfl⟩
      have hib : w.heap.size ≤ w2.heap.size := HB.out.size
      generalize hw3 : w2.alloc (.map #[] 0) = w3 at HG ⊢
      generalize hI : w2.heap.size = ib at HG hti hmi hib ⊢
      clear hw3 hI HT HB
      go_wp2_with fail
      go_loopw [9] (fun i wr => ∃ (k : Nat) (l : Tab) (il : List (Int × Bool)), k ≤ n ∧ i = .int .i64 k ∧ Hid (GoesIs w wr tb mb ib most l il)) (fun i _ => n - (intOf i).toNat)
      case atStart => exact ⟨0, [], [], Nat.zero_le _, rfl, HG⟩
      case round =>
        clear HG
        obtain ⟨k, l, il, hk, rfl, HG⟩ := hrel
        by_cases hlt : k < n
        · have hk1 : k < acts.length := by rw [HN.out]; exact hlt
          obtain ⟨b, o, rfl, hx⟩ := HA.out k hk1
          generalize acts[k] = x at hx
          obtain ⟨xk, xc, xn, xi⟩ := x
          obtain ⟨c0, c1, c2, c3, f0, f1, f2⟩ := hx
          have hbw := cell_lt c0
          have hB := HG.out.below
          have d0 := (hB.cell (by exact hbw)).trans c0
          have d1 := (hB.cell (by exact hbw)).trans c1
          have d2 := (hB.cell (by exact hbw)).trans c2
          have d3 := (hB.cell (by exact hbw)).trans c3
          have F0 := Lib.hid f0
          have F1 := Lib.hid f1
          have F2 := Lib.hid f2
          clear hB c0 c1 c2 c3 f0 f1 f2
          have hki : (k : Int) < (n : Int) := by omega
          go_wp2_with fail
          have HGa := Lib.hid (HG.out.step ((Below.refl wr.heap.size wr).alloc (Nat.le_refl _) (.cells #[.int .i64 xk, .int .i64 xc, .int .i64 xn, .bool xi] 70)))
          have hx := blk_new wr (.cells #[.int .i64 xk, .int .i64 xc, .int .i64 xn, .bool xi] 70)
          have hxt : tb < wr.heap.size := blk_lt HG.out.tab.1
          have hxm : mb < wr.heap.size := HG.out.tab.2.1.lt
          have hxi : ib < wr.heap.size := HG.out.idle.lt
          generalize wr.alloc (.cells #[.int .i64 xk, .int .i64 xc, .int .i64 xn, .bool xi] 70) = wa at HGa hx ⊢
          generalize wr.heap.size = xb at hx hxt hxm hxi ⊢
          clear HG d0 d1 d2 d3
          have HX := Lib.hid hx
          clear hx
          refine (all_ok tb mb most l wa HGa.out.tab (by omega) HGa.out.wf (by have := HGa.out.len; omega)).mono ?_
          rintro e wb ⟨wv, rfl, hrow, _, hbb⟩
          have HGb := Lib.hid (HGa.out.step hbb)
          have hX := bel_blk hbb (blk_lt HX.out) HX.out
          have HIs := Lib.hid (intsAt_of_row hrow).1
          have hown := hrow.lt
          have hab : wa.heap.size ≤ wb.heap.size := hbb.size
          have hta : tb < wa.heap.size := blk_lt HGa.out.tab.1
          have hma : mb < wa.heap.size := HGa.out.tab.2.1.lt
          have hia : ib < wa.heap.size := HGa.out.idle.lt
          clear hrow hbb HGa HX
          have hx0 := blk_cell hX 0
          go_wp2_with fail
          clear hx0
          have HX := Lib.hid hX
          clear hX
          refine (pick_ok xk 3 wb (by decide) (by decide)).mono ?_
          rintro e w' ⟨rfl, rfl⟩
          by_cases hpick : pickM xk 3 = 2
          · as_aux_lemma =>
            have hx1 := blk_cell HX.out 1
            have hx3 := blk_cell HX.out 3
            go_wp2_with fail
            have hT := HGb.out.tab
            have hI := HGb.out.idle
            have hm0 : most ≠ 0 := by omega
            go_region_held3 (fun w' => w'.cell? ⟨xb, 1, none⟩ = some (.int .i64 xc) ∧ w'.cell? ⟨xb, 3, none⟩ = some (.bool xi)) (first | exact ⟨hx1, hx3⟩ | exact ⟨hg1.cell hx1 (by simp; omega), hg1.cell hx3 (by simp; omega)⟩ | exact ⟨(hb2.cell (cell_lt (hg1.cell hx1 (by simp; omega)))).trans (hg1.cell hx1 (by simp; omega)), (hb2.cell (cell_lt (hg1.cell hx3 (by simp; omega)))).trans (hg1.cell hx3 (by simp; omega))⟩)
              (first
                | (go_at_call 39; refine (idle_all tb mb most l xc xi _ (tabDrew hT) hm0).mono ?_; rintro e w1 ⟨rfl, hT1, hg1⟩)
                | (go_at_call 46; refine (has_ok tb mb most _ xc _ hT1 hm0).mono ?_; rintro e w2 ⟨rfl, hb2⟩))
            have hg1' := grown_drew hg1
            have hI1 := hI.kept hg1' (by simp; omega)
            have HI2 := Lib.hid (hI1.below hb2 hI1.lt)
            have HT2 := Lib.hid (hT1.below hb2 (blk_lt hT1.1) hT1.2.1.lt)
            have hB1 := below_step HGb.out.below hg1' hmb'
            have HB2 := Lib.hid (hB1.trans (hb2.mono hB1.size))
            have hX2 : w2.heap[xb]? = some (.cells #[.int .i64 xk, .int .i64 xc, .int .i64 xn, .bool xi] 70 (0, 0)) := by
              have e1 := (hg1'.block xb (blk_lt HX.out) (by simp; omega)).trans HX.out
              exact bel_blk hb2 (blk_lt e1) e1
            clear hT hI hg1 hg1' hI1 hb2 hT1 hB1 hx1 hx3 HX
            have hx1 := blk_cell hX2 1
            have hx3 := blk_cell hX2 3
            have hz := idleM_zero l xc xi
            have hh := idleM_has l xc xi
            have hasC := has_ok tb mb most _ xc w2 HT2.out hm0
            cases hgx : mget l xc with
            | none =>
              have hM : idleM l xc xi = (6, l) := by unfold idleM; rw [hgx]
              rw [hM] at HT2 hasC
              rw [hM, hgx]
              rw [hgx] at hasC
              have HC := Lib.hid hasC
              clear hasC hz hh hM
              go_wp2_with fail
              refine HC.out.mono ?_
              rintro e w4 ⟨rfl, hb4⟩
              have HG4 : Hid (GoesIs w w4 tb mb ib most l il) := GoesIs.step ⟨HT2.out, HI2.out, HB2.out, HGb.out.wf, HGb.out.len, HGb.out.flags⟩ hb4
              clear HC hb4 hgx
              go_wp2
              go_roundw
              case rel => exact ⟨k + 1, l, il, by omega, by go_num, HG4⟩
              case measure => simp [intOf]; omega
            | some x =>
              have hM : idleM l xc xi = (0, mput l xc (x.1, xi)) := by unfold idleM; rw [hgx]
              rw [hM] at HT2 hasC
              rw [hM]
              have hs : (mget (mput l xc (x.1, xi)) xc).isSome = true := by rw [mget_put_same]; rfl
              dsimp only at hasC ⊢
              rw [hs] at hasC
              rw [hs]
              have HC := Lib.hid hasC
              clear hasC hz hh hM hs
              go_wp2_with fail
              refine HC.out.mono ?_
              rintro e w4 ⟨rfl, hb4⟩
              have hX4 := bel_blk hb4 (blk_lt hX2) hX2
              have hI4 := HI2.out.below hb4 HI2.out.lt
              have hT4 := HT2.out.below hb4 (blk_lt HT2.out.1) HT2.out.2.1.lt
              have hB4 := HB2.out.trans (hb4.mono HB2.out.size)
              clear hx1 hx3 hb4 HC
              have hx1 := blk_cell hX4 1
              have hx3 := blk_cell hX4 3
              have hlen : (mput l xc (x.1, xi)).length = l.length := mput_has _ (by rw [hgx]; rfl)
              have HI4 := Lib.hid hI4
              have HT4 := Lib.hid hT4
              have HB4 := Lib.hid hB4
              have HL := Lib.hid hlen
              clear hI4 hT4 hB4 hlen hgx
              go_wp2_with (at_mapUpdate; refine wpList_mstore _ rfl _ _ _ 82 rfl keyInt Try.underlying82 ib rfl HI4.out xc rfl xi rfl ?_; intro w5 hm5 hg5)
              have HG5 : Hid (GoesIs w w5 tb mb ib most (mput l xc (x.1, xi)) (mput il xc xi)) := by
                refine ⟨HT4.out.of_blk (hg5.block _ (blk_lt HT4.out.1) (by simp; omega)) (hg5.block _ HT4.out.2.1.lt (by simp; omega)), hm5, below_step HB4.out hg5 hib, wf_put HGb.out.wf _ _ F1.out, ?_, flags_put HGb.out.flags _ _ _⟩
                rw [HL.out]
                exact HGb.out.len
              clear hm5 hg5
              go_roundw
              case rel => exact ⟨k + 1, _, _, by omega, by go_num, HG5⟩
              case measure => simp [intOf]; omega
          · have hx1 := blk_cell HX.out 1
            have hx2 := blk_cell HX.out 2
            have hm0 : most ≠ 0 := by omega
            have hl6 : l.length ≤ 1000000 := by have := HGb.out.len; omega
            have hw := whens_ok tb mb most l wb wv (sortedKeys l) HGb.out.tab hm0 HIs.out (by rw [sorted_len]; exact hl6)
            have HW := Lib.hid hw
            clear hw
            go_wp2_with fail
            refine HW.out.mono ?_
            rintro e w4 ⟨nb, rfl, hN4, hnb, hb4⟩
            have HG4 := Lib.hid (HGb.out.step hb4)
            have HX4 := Lib.hid (bel_blk hb4 (blk_lt HX.out) HX.out)
            have hown4 : ∀ k, wv.ownBlock = some k → k < w4.heap.size := fun k hk => Nat.lt_of_lt_of_le (hown k hk).2 hb4.size
            have HI4 := Lib.hid (HIs.out.of_blk fun b hb => hb4.block b (hown b hb).2)
            have HN4 := Lib.hid hN4
            have hnb4 : wa.heap.size ≤ nb := Nat.le_trans hab hnb
            clear HW hN4 hb4 hnb HX HIs HGb hx1 hx2
            have hx1 := blk_cell HX4.out 1
            have hx2 := blk_cell HX4.out 2
            have HC := Lib.hid (has_ok tb mb most l xc w4 HG4.out.tab hm0)
            go_wp2_with fail
            refine HC.out.mono ?_
            rintro e w5 ⟨rfl, hb5⟩
            have HG5 := Lib.hid (HG4.out.step hb5)
            have HX5 := Lib.hid (bel_blk hb5 (blk_lt HX4.out) HX4.out)
            have hown5 : ∀ k, wv.ownBlock = some k → k < w5.heap.size := fun k hk => Nat.lt_of_lt_of_le (hown4 k hk) hb5.size
            have HI5 := Lib.hid (HI4.out.of_blk fun b hb => hb5.block b (hown4 b hb))
            have HN5 := Lib.hid (HN4.out.below hb5 HN4.out.lt)
            clear HC hb5 HX4 HI4 HN4 HG4 hown4 hx1 hx2
            have hx1 := blk_cell HX5.out 1
            have hx2 := blk_cell HX5.out 2
            obtain ⟨aw, capw, hwv, _⟩ := id HI5.out
            subst hwv
            have T := Lib.hid (touch_ok tb mb most l xc xn w5 HG5.out.tab hm1 HG5.out.wf hl6)
            rcases touch_cases most l xc xn with hE | ⟨c, hgx, hE⟩ | ⟨hgx, hroom, hE⟩ | ⟨hgx, hroom, hF, hE⟩ | ⟨o', hgx, hroom, hF, hE⟩
            · -- the time is none
              rw [hE] at T
              simp only [touchIs] at T
              go_wp2_with fail
              refine T.out.mono ?_
              rintro e w6 ⟨rfl, hT6, hg6⟩
              have hX6 := (hg6.block xb (blk_lt HX5.out) (by simp; omega)).trans HX5.out
              have hI6 := HI5.out.of_blk (fun b hb => hg6.block b (hown5 b hb) (by have := (hown b hb).1; simp; omega))
              have hown6 : ∀ k, (Value.slice aw (sortedKeys l).length capw).ownBlock = some k → k < w6.heap.size := fun k hk => Nat.lt_of_lt_of_le (hown5 k hk) hg6.size
              have hN6 := HN5.out.kept hg6 (by simp; omega)
              have hM6 := HG5.out.idle.kept hg6 (by simp; omega)
              have hB6 := below_step HG5.out.below hg6 hmb'
              have hwf : IntsWf (l) := HG5.out.wf
              have hln : (l).length ≤ 1000000 := hl6
              have HT6 := Lib.hid hT6
              have HA6 := Lib.hid (all_ok tb mb most (l) w6 hT6 hm0 hwf hln)
              clear hx1 hx2 T hg6
              go_wp2_with fail
              refine HA6.out.mono ?_
              rintro e w7 ⟨nv, rfl, hrow7, _, hb7⟩
              have HX7 := Lib.hid (bel_blk hb7 (blk_lt hX6) hX6)
              have HI7 := Lib.hid (hI6.of_blk fun b hb => hb7.block b (hown6 b hb))
              have hown7 : ∀ k, (Value.slice aw (sortedKeys l).length capw).ownBlock = some k → k < w7.heap.size := fun k hk => Nat.lt_of_lt_of_le (hown6 k hk) hb7.size
              have HN7 := Lib.hid (hN6.below hb7 hN6.lt)
              have HM7 := Lib.hid (hM6.below hb7 hM6.lt)
              have HT7 := Lib.hid (HT6.out.below hb7 (blk_lt HT6.out.1) HT6.out.2.1.lt)
              have HB7 := Lib.hid (hB6.trans (hb7.mono hB6.size))
              have HR7 := Lib.hid (intsAt_of_row hrow7).1
              have hnown : ∀ k, nv.ownBlock = some k → k < w7.heap.size := fun k hk => (hrow7.lt k hk).2
              clear hX6 hI6 hown6 hN6 hM6 hB6 HT6 HA6 hrow7 hb7 HX5 HI5 HN5 hown5
              obtain ⟨an, capn, hnv, _⟩ := id HR7.out
              subst hnv
              have HS := Lib.hid (sameInts_ok w7 _ _ (sortedKeys l) (sortedKeys l) HI7.out HR7.out (by rw [sorted_len]; exact hl6) (by rw [sorted_len]; exact hl6))
              rw [show decide (sortedKeys l = sortedKeys l) = true from by simp] at HS
              go_wp2_with fail
              refine HS.out.mono ?_
              rintro e w8 ⟨rfl, hb8⟩
              have HG8 : Hid (GoesIs w w8 tb mb ib most l il) := GoesIs.step ⟨HT7.out, HM7.out, HB7.out, HG5.out.wf, HG5.out.len, HG5.out.flags⟩ hb8
              clear HS hb8
              go_wp2
              go_roundw
              case rel => exact ⟨k + 1, l, il, by omega, by go_num, HG8⟩
              case measure => simp [intOf]; omega
            · as_aux_lemma =>
              have hgl : (mget l xc).isSome = true := by rw [hgx]; rfl
              rw [hE] at T
              simp only [touchIs] at T
              go_wp2_with fail
              refine T.out.mono ?_
              rintro e w6 ⟨rfl, hT6, hg6⟩
              have hX6 := (hg6.block xb (blk_lt HX5.out) (by simp; omega)).trans HX5.out
              have hI6 := HI5.out.of_blk (fun b hb => hg6.block b (hown5 b hb) (by have := (hown b hb).1; simp; omega))
              have hown6 : ∀ k, (Value.slice aw (sortedKeys l).length capw).ownBlock = some k → k < w6.heap.size := fun k hk => Nat.lt_of_lt_of_le (hown5 k hk) hg6.size
              have hN6 := HN5.out.kept hg6 (by simp; omega)
              have hM6 := HG5.out.idle.kept hg6 (by simp; omega)
              have hB6 := below_step HG5.out.below hg6 hmb'
              have hwf : IntsWf (mput l xc (max c.1 xn, c.2)) := wf_put HG5.out.wf _ _ F1.out
              have hln : (mput l xc (max c.1 xn, c.2)).length ≤ 1000000 := by rw [mput_has _ hgl]; exact hl6
              have HT6 := Lib.hid hT6
              have HA6 := Lib.hid (all_ok tb mb most (mput l xc (max c.1 xn, c.2)) w6 hT6 hm0 hwf hln)
              clear hx1 hx2 T hg6
              go_wp2_with fail
              refine HA6.out.mono ?_
              rintro e w7 ⟨nv, rfl, hrow7, _, hb7⟩
              have HX7 := Lib.hid (bel_blk hb7 (blk_lt hX6) hX6)
              have HI7 := Lib.hid (hI6.of_blk fun b hb => hb7.block b (hown6 b hb))
              have hown7 : ∀ k, (Value.slice aw (sortedKeys l).length capw).ownBlock = some k → k < w7.heap.size := fun k hk => Nat.lt_of_lt_of_le (hown6 k hk) hb7.size
              have HN7 := Lib.hid (hN6.below hb7 hN6.lt)
              have HM7 := Lib.hid (hM6.below hb7 hM6.lt)
              have HT7 := Lib.hid (HT6.out.below hb7 (blk_lt HT6.out.1) HT6.out.2.1.lt)
              have HB7 := Lib.hid (hB6.trans (hb7.mono hB6.size))
              have HR7 := Lib.hid (intsAt_of_row hrow7).1
              have hnown : ∀ k, nv.ownBlock = some k → k < w7.heap.size := fun k hk => (hrow7.lt k hk).2
              clear hX6 hI6 hown6 hN6 hM6 hB6 HT6 HA6 hrow7 hb7 HX5 HI5 HN5 hown5
              obtain ⟨an, capn, hnv, _⟩ := id HR7.out
              subst hnv
              have hx1 := blk_cell HX7.out 1
              have hls : (sortedKeys (mput l xc (max c.1 xn, c.2))).length = (sortedKeys l).length := by rw [sorted_len, sorted_len, mput_has _ hgl]
              have hHas := has_ok tb mb most _ xc w7 HT7.out hm0
              rw [mget_put_same] at hHas
              have HH := Lib.hid hHas
              have hml : ¬ (most < ((sortedKeys l).length : Int)) := by rw [sorted_len]; have := HG5.out.len; omega
              have hpos : (0 : Int) < ((sortedKeys l).length : Int) := by
                rw [sorted_len]
                have : l ≠ [] := by rintro rfl; simp [mget] at hgx
                have := List.length_pos_iff.2 this
                omega
              have HG7 : Hid (GoesIs w w7 tb mb ib most (mput l xc (max c.1 xn, c.2)) il) := ⟨HT7.out, HM7.out, HB7.out, hwf, by rw [mput_has _ hgl]; exact HG5.out.len, flags_has HG5.out.flags _ _ _ (by simp [clOf, hgx])⟩
              rw [hls]
              try rw [hgl]
              clear hHas HT7 HM7 HB7 HR7 HI7 hls hgx hgl hwf hln
              go_wp2_with fail
              refine HH.out.mono ?_
              rintro e w8 ⟨rfl, hb8⟩
              have HG8 := Lib.hid (HG7.out.step hb8)
              clear HH hb8 HG7
              go_wp2_with fail
              refine wp_loop_rounds 1 ?_
              rw [rounds_succ]
              go_wp2_with fail
              go_roundw
              case rel => exact ⟨k + 1, _, il, by omega, by go_num, HG8⟩
              case measure => simp [intOf]; omega
            · as_aux_lemma =>
              rw [hE] at T
              simp only [touchIs] at T
              go_wp2_with fail
              refine T.out.mono ?_
              rintro e w6 ⟨rfl, hT6, hg6⟩
              have hX6 := (hg6.block xb (blk_lt HX5.out) (by simp; omega)).trans HX5.out
              have hI6 := HI5.out.of_blk (fun b hb => hg6.block b (hown5 b hb) (by have := (hown b hb).1; simp; omega))
              have hown6 : ∀ k, (Value.slice aw (sortedKeys l).length capw).ownBlock = some k → k < w6.heap.size := fun k hk => Nat.lt_of_lt_of_le (hown5 k hk) hg6.size
              have hN6 := HN5.out.kept hg6 (by simp; omega)
              have hM6 := HG5.out.idle.kept hg6 (by simp; omega)
              have hB6 := below_step HG5.out.below hg6 hmb'
              have hwf : IntsWf (mput l xc (xn, false)) := wf_put HG5.out.wf _ _ F1.out
              have hln : (mput l xc (xn, false)).length ≤ 1000000 := by rw [put_new_len _ hgx]; omega
              have HT6 := Lib.hid hT6
              have HA6 := Lib.hid (all_ok tb mb most (mput l xc (xn, false)) w6 hT6 hm0 hwf hln)
              clear hx1 hx2 T hg6
              go_wp2_with fail
              refine HA6.out.mono ?_
              rintro e w7 ⟨nv, rfl, hrow7, _, hb7⟩
              have HX7 := Lib.hid (bel_blk hb7 (blk_lt hX6) hX6)
              have HI7 := Lib.hid (hI6.of_blk fun b hb => hb7.block b (hown6 b hb))
              have hown7 : ∀ k, (Value.slice aw (sortedKeys l).length capw).ownBlock = some k → k < w7.heap.size := fun k hk => Nat.lt_of_lt_of_le (hown6 k hk) hb7.size
              have HN7 := Lib.hid (hN6.below hb7 hN6.lt)
              have HM7 := Lib.hid (hM6.below hb7 hM6.lt)
              have HT7 := Lib.hid (HT6.out.below hb7 (blk_lt HT6.out.1) HT6.out.2.1.lt)
              have HB7 := Lib.hid (hB6.trans (hb7.mono hB6.size))
              have HR7 := Lib.hid (intsAt_of_row hrow7).1
              have hnown : ∀ k, nv.ownBlock = some k → k < w7.heap.size := fun k hk => (hrow7.lt k hk).2
              clear hX6 hI6 hown6 hN6 hM6 hB6 HT6 HA6 hrow7 hb7 HX5 HI5 HN5 hown5
              obtain ⟨an, capn, hnv, _⟩ := id HR7.out
              subst hnv
              have hx1 := blk_cell HX7.out 1
              have hls : ((sortedKeys (mput l xc (xn, false))).length : Int) = ((sortedKeys l).length : Int) + 1 := by rw [sorted_len, sorted_len, put_new_len _ hgx]; omega
              have hHas := has_ok tb mb most _ xc w7 HT7.out hm0
              rw [mget_put_same] at hHas
              have HH := Lib.hid hHas
              have hml : ¬ (most < ((sortedKeys (mput l xc (xn, false))).length : Int)) := by rw [hls, sorted_len]; omega
              have hne : ((((sortedKeys (mput l xc (xn, false))).length : Int)) != ((sortedKeys l).length : Int)) = true := by rw [hls]; exact bne_iff_ne.2 (by omega)
              have hne2 : ((((sortedKeys (mput l xc (xn, false))).length : Int)) != ((sortedKeys l).length : Int) + 1) = false := by rw [hls]; exact bne_self_eq_false _
              have hw2 : (((sortedKeys l).length : Int)) ≤ 1000000 := by rw [sorted_len]; omega
              have HT := Lib.hid hwf
              have hlen2 : ((mput l xc (xn, false)).length : Int) ≤ most := by rw [put_new_len _ hgx]; omega
              try rw [show (mget l xc).isSome = false by rw [hgx]; rfl]
              clear hHas HR7 HI7 hgx hwf hln hls
              go_wp2_with fail
              refine HH.out.mono ?_
              rintro e w8 ⟨rfl, hb8⟩
              have HT8 := Lib.hid (HT7.out.below hb8 (blk_lt HT7.out.1) HT7.out.2.1.lt)
              have HM8 := Lib.hid (HM7.out.below hb8 HM7.out.lt)
              have HB8 := Lib.hid (HB7.out.trans (hb8.mono HB7.out.size))
              have hX8 := bel_blk hb8 (blk_lt HX7.out) HX7.out
              clear HH hb8 HT7 HM7 HB7 HX7 hx1
              have hx1 := blk_cell hX8 1
              by_cases hpos : (0 : Int) < ((sortedKeys l).length : Int)
              · go_wp2_with fail
                refine wp_loop_rounds 1 ?_
                rw [rounds_succ]
                go_wp2_with (at_delete; refine wpList_mdelete _ rfl _ _ 82 rfl keyInt Try.underlying82 ib rfl HM8.out xc rfl ?_; intro w9 hm9 hg9)
                have HG9 : Hid (GoesIs w w9 tb mb ib most (mput l xc (xn, false)) (mdel il xc)) := ⟨HT8.out.of_blk (hg9.block _ (blk_lt HT8.out.1) (by simp; omega)) (hg9.block _ HT8.out.2.1.lt (by simp; omega)), hm9, below_step HB8.out hg9 hib, HT.out, hlen2, flags_new HG5.out.flags _ _⟩
                go_roundw
                case rel => exact ⟨k + 1, _, _, by omega, by go_num, HG9⟩
                case measure => simp [intOf]; omega
              · go_wp2_with fail
                refine wp_loop_rounds 1 ?_
                rw [rounds_succ]
                go_wp2_with (at_delete; refine wpList_mdelete _ rfl _ _ 82 rfl keyInt Try.underlying82 ib rfl HM8.out xc rfl ?_; intro w9 hm9 hg9)
                have HG9 : Hid (GoesIs w w9 tb mb ib most (mput l xc (xn, false)) (mdel il xc)) := ⟨HT8.out.of_blk (hg9.block _ (blk_lt HT8.out.1) (by simp; omega)) (hg9.block _ HT8.out.2.1.lt (by simp; omega)), hm9, below_step HB8.out hg9 hib, HT.out, hlen2, flags_new HG5.out.flags _ _⟩
                go_roundw
                case rel => exact ⟨k + 1, _, _, by omega, by go_num, HG9⟩
                case measure => simp [intOf]; omega
            · -- it is full, and nobody goes
              rw [hE] at T
              simp only [touchIs] at T
              go_wp2_with fail
              refine T.out.mono ?_
              rintro e w6 ⟨rfl, hT6, hg6⟩
              have hX6 := (hg6.block xb (blk_lt HX5.out) (by simp; omega)).trans HX5.out
              have hI6 := HI5.out.of_blk (fun b hb => hg6.block b (hown5 b hb) (by have := (hown b hb).1; simp; omega))
              have hown6 : ∀ k, (Value.slice aw (sortedKeys l).length capw).ownBlock = some k → k < w6.heap.size := fun k hk => Nat.lt_of_lt_of_le (hown5 k hk) hg6.size
              have hN6 := HN5.out.kept hg6 (by simp; omega)
              have hM6 := HG5.out.idle.kept hg6 (by simp; omega)
              have hB6 := below_step HG5.out.below hg6 hmb'
              have hwf : IntsWf (l) := HG5.out.wf
              have hln : (l).length ≤ 1000000 := hl6
              have HT6 := Lib.hid hT6
              have HA6 := Lib.hid (all_ok tb mb most (l) w6 hT6 hm0 hwf hln)
              clear hx1 hx2 T hg6
              go_wp2_with fail
              refine HA6.out.mono ?_
              rintro e w7 ⟨nv, rfl, hrow7, _, hb7⟩
              have HX7 := Lib.hid (bel_blk hb7 (blk_lt hX6) hX6)
              have HI7 := Lib.hid (hI6.of_blk fun b hb => hb7.block b (hown6 b hb))
              have hown7 : ∀ k, (Value.slice aw (sortedKeys l).length capw).ownBlock = some k → k < w7.heap.size := fun k hk => Nat.lt_of_lt_of_le (hown6 k hk) hb7.size
              have HN7 := Lib.hid (hN6.below hb7 hN6.lt)
              have HM7 := Lib.hid (hM6.below hb7 hM6.lt)
              have HT7 := Lib.hid (HT6.out.below hb7 (blk_lt HT6.out.1) HT6.out.2.1.lt)
              have HB7 := Lib.hid (hB6.trans (hb7.mono hB6.size))
              have HR7 := Lib.hid (intsAt_of_row hrow7).1
              have hnown : ∀ k, nv.ownBlock = some k → k < w7.heap.size := fun k hk => (hrow7.lt k hk).2
              clear hX6 hI6 hown6 hN6 hM6 hB6 HT6 HA6 hrow7 hb7 HX5 HI5 HN5 hown5
              obtain ⟨an, capn, hnv, _⟩ := id HR7.out
              subst hnv
              have hroom' : ¬ (((sortedKeys l).length : Int) < most) := by rw [sorted_len]; omega
              have HS := Lib.hid (sameInts_ok w7 _ _ (sortedKeys l) (sortedKeys l) HI7.out HR7.out (by rw [sorted_len]; exact hl6) (by rw [sorted_len]; exact hl6))
              rw [show decide (sortedKeys l = sortedKeys l) = true from by simp] at HS
              go_wp2_with fail
              refine HS.out.mono ?_
              rintro e w8 ⟨rfl, hb8⟩
              have HG8 : Hid (GoesIs w w8 tb mb ib most l il) := GoesIs.step ⟨HT7.out, HM7.out, HB7.out, HG5.out.wf, HG5.out.len, HG5.out.flags⟩ hb8
              have hI8 := HI7.out.of_blk fun b hb => hb8.block b (hown7 b hb)
              have hany := any20_ok w8 _ (sortedKeys l) ib il hI8 HG8.out.idle (by rw [sorted_len]; exact hl6)
              have hno : ((sortedKeys l).any fun x => (mget il x).getD false) = false := by
                rw [List.any_eq_false]
                intro x hx
                rw [HG8.out.flags x, (goesF_none l).1 hF x ((sorted_mem l x).1 hx)]
                simp
              rw [hno] at hany
              have HY := Lib.hid hany
              clear HS hb8 hI8 hno hany
              go_wp2_with fail
              refine HY.out.mono ?_
              rintro e w9 ⟨rfl, rfl⟩
              go_wp2
              go_roundw
              case rel => exact ⟨k + 1, l, il, by omega, by go_num, HG8⟩
              case measure => simp [intOf]; omega
            · as_aux_lemma =>
              obtain ⟨ho1, ho2, ho3⟩ := (goesF_some l o').1 hF
              have hoc : o' ≠ xc := by rintro rfl; exact mget_none.1 hgx ho1
              have hl2 : (mput (mdel l o') xc (xn, false)).length = l.length := by rw [put_new_len _ (by rw [mget_del_other _ (Ne.symm hoc)]; exact hgx), del_len HG5.out.tab.2.1.nodup ho1]
              rw [hE] at T
              simp only [touchIs] at T
              go_wp2_with fail
              refine T.out.mono ?_
              rintro e w6 ⟨rfl, hT6, hg6⟩
              have hX6 := (hg6.block xb (blk_lt HX5.out) (by simp; omega)).trans HX5.out
              have hI6 := HI5.out.of_blk (fun b hb => hg6.block b (hown5 b hb) (by have := (hown b hb).1; simp; omega))
              have hown6 : ∀ k, (Value.slice aw (sortedKeys l).length capw).ownBlock = some k → k < w6.heap.size := fun k hk => Nat.lt_of_lt_of_le (hown5 k hk) hg6.size
              have hN6 := HN5.out.kept hg6 (by simp; omega)
              have hM6 := HG5.out.idle.kept hg6 (by simp; omega)
              have hB6 := below_step HG5.out.below hg6 hmb'
              have hwf : IntsWf (mput (mdel l o') xc (xn, false)) := wf_put (wf_del HG5.out.wf _) _ _ F1.out
              have hln : (mput (mdel l o') xc (xn, false)).length ≤ 1000000 := by rw [hl2]; exact hl6
              have HT6 := Lib.hid hT6
              have HA6 := Lib.hid (all_ok tb mb most (mput (mdel l o') xc (xn, false)) w6 hT6 hm0 hwf hln)
              clear hx1 hx2 T hg6
              go_wp2_with fail
              refine HA6.out.mono ?_
              rintro e w7 ⟨nv, rfl, hrow7, _, hb7⟩
              have HX7 := Lib.hid (bel_blk hb7 (blk_lt hX6) hX6)
              have HI7 := Lib.hid (hI6.of_blk fun b hb => hb7.block b (hown6 b hb))
              have hown7 : ∀ k, (Value.slice aw (sortedKeys l).length capw).ownBlock = some k → k < w7.heap.size := fun k hk => Nat.lt_of_lt_of_le (hown6 k hk) hb7.size
              have HN7 := Lib.hid (hN6.below hb7 hN6.lt)
              have HM7 := Lib.hid (hM6.below hb7 hM6.lt)
              have HT7 := Lib.hid (HT6.out.below hb7 (blk_lt HT6.out.1) HT6.out.2.1.lt)
              have HB7 := Lib.hid (hB6.trans (hb7.mono hB6.size))
              have HR7 := Lib.hid (intsAt_of_row hrow7).1
              have hnown : ∀ k, nv.ownBlock = some k → k < w7.heap.size := fun k hk => (hrow7.lt k hk).2
              clear hX6 hI6 hown6 hN6 hM6 hB6 HT6 HA6 hrow7 hb7 HX5 HI5 HN5 hown5
              obtain ⟨an, capn, hnv, _⟩ := id HR7.out
              subst hnv
              have hx1 := blk_cell HX7.out 1
              have hHas := has_ok tb mb most _ xc w7 HT7.out hm0
              rw [mget_put_same] at hHas
              have HH := Lib.hid hHas
              have hml : ¬ (most < ((sortedKeys (mput (mdel l o') xc (xn, false))).length : Int)) := by rw [sorted_len, hl2]; have := HG5.out.len; omega
              have hml2 : ¬ (((sortedKeys l).length : Int) < most) := by rw [sorted_len]; omega
              have hw2 : (((sortedKeys l).length : Int)) ≤ 1000000 := by rw [sorted_len]; omega
              have HT := Lib.hid hwf
              have HL2 := Lib.hid hl2
              have HF := Lib.hid HG5.out.flags
              have HGX := Lib.hid hgx
              have HOC := Lib.hid hoc
              try rw [show (mget l xc).isSome = false by rw [hgx]; rfl]
              clear hHas HR7 hgx hwf hln hl2 hroom hF hoc
              go_wp2_with fail
              refine HH.out.mono ?_
              rintro e w8 ⟨rfl, hb8⟩
              have HT8 := Lib.hid (HT7.out.below hb8 (blk_lt HT7.out.1) HT7.out.2.1.lt)
              have HM8 := Lib.hid (HM7.out.below hb8 HM7.out.lt)
              have HB8 := Lib.hid (HB7.out.trans (hb8.mono HB7.out.size))
              have HX8 := Lib.hid (bel_blk hb8 (blk_lt HX7.out) HX7.out)
              have HI8 := Lib.hid (HI7.out.of_blk fun b hb => hb8.block b (hown7 b hb))
              have hown8 : ∀ k, (Value.slice aw (sortedKeys l).length capw).ownBlock = some k → k < w8.heap.size := fun k hk => Nat.lt_of_lt_of_le (hown7 k hk) hb8.size
              have HN8 := Lib.hid (HN7.out.below hb8 HN7.out.lt)
              clear HH hb8 HT7 HM7 HB7 HX7 hx1 HI7 HN7
              have hlo := mapGet HM8.out keyInt Try.underlying82 false (zBool _) o'
              rw [HF.out o', ho2] at hlo
              simp only [encInt] at hlo
              have hHas := has_ok tb mb most _ o' w8 HT8.out hm0
              rw [show mget (mput (mdel l o') xc (xn, false)) o' = none by rw [mget_put_other _ _ HOC.out, mget_del_same]] at hHas
              have HH := Lib.hid hHas
              clear hHas
              go_wp2_with fail
              refine HH.out.mono ?_
              rintro e w9 ⟨rfl, hb9⟩
              have HT9 := Lib.hid (HT8.out.below hb9 (blk_lt HT8.out.1) HT8.out.2.1.lt)
              have HM9 := Lib.hid (HM8.out.below hb9 HM8.out.lt)
              have HB9 := Lib.hid (HB8.out.trans (hb9.mono HB8.out.size))
              have HX9 := Lib.hid (bel_blk hb9 (blk_lt HX8.out) HX8.out)
              have HI9 := Lib.hid (HI8.out.of_blk fun b hb => hb9.block b (hown8 b hb))
              have hown9 : ∀ k, (Value.slice aw (sortedKeys l).length capw).ownBlock = some k → k < w9.heap.size := fun k hk => Nat.lt_of_lt_of_le (hown8 k hk) hb9.size
              have HN9 := Lib.hid (HN8.out.below hb9 HN8.out.lt)
              clear HH hb9 HT8 HM8 HB8 HX8 hlo HI8 HN8 hown8 hown7
              have hne0 : sortedKeys l ≠ [] := by
                intro e
                have := (sorted_mem l o').2 ho1
                rw [e] at this
                simp at this
              obtain ⟨sb, so, sc, hse, hsb, hsc⟩ := HI9.out.lt hne0
              simp only [Value.slice.injEq] at hse
              obtain ⟨rfl, _, rfl⟩ := hse
              have HSC := Lib.hid hsc
              have HO1 := Lib.hid ho1
              have HO2 := Lib.hid ho2
              have HO3 := Lib.hid ho3
              clear hsc hne0 ho1 ho2 ho3 HI9
              clear hE hown hown9 hnown
              have hmN : (sortedKeys l).length ≤ 1000000 := by omega
              go_wp2_with fail
              go_loopw [18] (fun i wq => ∃ j : Nat, j ≤ (sortedKeys l).length ∧ i = .int .i64 j ∧ Hid (Below w9.heap.size w9 wq)) (fun i _ => (sortedKeys l).length - (intOf i).toNat)
              case atStart => exact ⟨0, Nat.zero_le _, rfl, Below.refl _ _⟩
              case round =>
                obtain ⟨j, hj, rfl, HBq⟩ := hrel
                by_cases hjl : j < (sortedKeys l).length
                · have hji : (j : Int) < ((sortedKeys l).length : Int) := by omega
                  have HMq := Lib.hid (HM9.out.below HBq.out HM9.out.lt)
                  have HNq := Lib.hid (HN9.out.below HBq.out HN9.out.lt)
                  have HTq := Lib.hid (HT9.out.below HBq.out (blk_lt HT9.out.1) HT9.out.2.1.lt)
                  have hcj := (HBq.out.cell (by exact hsb)).trans (HSC.out j hjl)
                  have hxmem : (sortedKeys l)[j] ∈ l.map (·.1) := (sorted_mem l _).1 (List.getElem_mem _)
                  generalize (sortedKeys l)[j] = x at hcj hxmem
                  have HXM := Lib.hid hxmem
                  clear hxmem
                  have hg0 : ∀ y, y ∈ l.map (·.1) → (mget (whensL l (sortedKeys l)) y).getD 0 = (clOf l y).1 := fun y hy => by rw [whensL_get, if_pos ((sorted_mem l y).2 hy)]
                  have hL1 : ∀ w2 : World, w2.heap = wr.heap → (Instr.lookup 82 (.map (some ib)) (.int .i64 x) false).run Try.prog w2 = .ok (.bool (clOf l x).2) w2 := fun w2 e => by
                    have := mapGet (w := w2) (HMq.out.of_blk (by rw [e])) keyInt Try.underlying82 false (zBool _) x
                    rw [HF.out x] at this
                    exact this
                  have hL2 : ∀ w2 : World, w2.heap = wr.heap → (Instr.lookup 83 (.map (some nb)) (.int .i64 x) false).run Try.prog w2 = .ok (.int .i64 (clOf l x).1) w2 := fun w2 e => by
                    have := mapGet (w := w2) (HNq.out.of_blk (by rw [e])) keyInt Try.underlying83 0 (zInt _) x
                    rw [hg0 x HXM.out] at this
                    exact this
                  have hL3 : ∀ w2 : World, w2.heap = wr.heap → (Instr.lookup 83 (.map (some nb)) (.int .i64 o') false).run Try.prog w2 = .ok (.int .i64 (clOf l o').1) w2 := fun w2 e => by
                    have := mapGet (w := w2) (HNq.out.of_blk (by rw [e])) keyInt Try.underlying83 0 (zInt _) o'
                    rw [hg0 o' HO1.out] at this
                    exact this
                  have hlt2 : (clOf l x).2 = true → ¬ ((clOf l x).1 < (clOf l o').1) := fun hb h => HO3.out x HXM.out hb (.inl h)
                  have HXS : Hid (x ≠ o' → (mget (mput (mdel l o') xc (xn, false)) x).isSome = true) := Lib.hid fun hx => by
                    have hc : x ≠ xc := by rintro rfl; exact mget_none.1 HGX.out HXM.out
                    rw [mget_put_other _ _ hc, mget_del_other _ hx]
                    exact mget_some HXM.out
                  clear hg0
                  generalize hbv : (clOf l x).2 = bv at hL1 hlt2
                  generalize (clOf l x).1 = xa at hL2 hlt2
                  generalize (clOf l o').1 = oa at hL3 hlt2
                  clear hbv
                  have HL1 := Lib.hid hL1
                  have HL2' := Lib.hid hL2
                  have HL3 := Lib.hid hL3
                  clear hL1 hL2 hL3
                  cases bv with
                  | true =>
                    have hlt3 : decide (xa < oa) = false := decide_eq_false (hlt2 rfl)
                    clear hlt2
                    by_cases hxo : x = o'
                    · have hxb : (x != o') = false := by simpa using hxo
                      clear hxo
                      go_wp2_with fail
                      refine wp_tailq 31 (by kernel_rfl) (by kernel_rfl) (fun w2 hx2 hf2 hh2 hb2 KK HKK => ?_)
                      have hl1 := HL1.out w2 hh2.out
                      have hl2 := HL2'.out w2 hh2.out
                      have hl3 := HL3.out w2 hh2.out
                      have HBp := Lib.hid (hb2.out _ _ HBq.out)
                      have HTp : Hid (TableAt w2 tb mb most (mput (mdel l o') xc (xn, false))) := Lib.hid (HTq.out.of_blk (by rw [hh2.out]) (by rw [hh2.out]))
                      clear hh2 hb2
                      simp only [List.take_succ_cons, List.take_zero, List.drop_succ_cons, List.drop_zero]
                      repeat (go_big_quiet_step (fail))
                      refine wpQuiet_nil ?_
                      refine HKK.out _ ?_
                      go_wp2_with fail
                      go_roundw
                      case rel => exact ⟨j + 1, by omega, by go_num, HBp⟩
                      case measure => simp [intOf]; omega
                    · have hxb : (x != o') = true := by simpa using hxo
                      have HXS := Lib.hid (HXS.out hxo)
                      clear hxo
                      go_wp2_with fail
                      refine wp_tailq 31 (by kernel_rfl) (by kernel_rfl) (fun w2 hx2 hf2 hh2 hb2 KK HKK => ?_)
                      have hl1 := HL1.out w2 hh2.out
                      have hl2 := HL2'.out w2 hh2.out
                      have hl3 := HL3.out w2 hh2.out
                      have HBp := Lib.hid (hb2.out _ _ HBq.out)
                      have HTp : Hid (TableAt w2 tb mb most (mput (mdel l o') xc (xn, false))) := Lib.hid (HTq.out.of_blk (by rw [hh2.out]) (by rw [hh2.out]))
                      clear hh2 hb2
                      simp only [List.take_succ_cons, List.take_zero, List.drop_succ_cons, List.drop_zero]
                      repeat (go_big_quiet_step (fail))
                      refine wpQuiet_nil ?_
                      refine HKK.out _ ?_
                      clear hl1 hx2 hf2 hl2 hl3
                      have hH := has_ok tb mb most _ x w2 HTp.out hm0
                      rw [HXS.out] at hH
                      have HH := Lib.hid hH
                      clear hH
                      go_wp2_with fail
                      refine HH.out.mono ?_
                      rintro e w3 ⟨rfl, hb3⟩
                      have HBs := Lib.hid (HBp.out.trans (hb3.mono HBp.out.size))
                      clear HH hb3
                      go_wp2_with fail
                      go_roundw
                      case rel => exact ⟨j + 1, by omega, by go_num, HBs⟩
                      case measure => simp [intOf]; omega
                  | false =>
                    clear hlt2
                    by_cases hxo : x = o'
                    · have hxb : (x != o') = false := by simpa using hxo
                      clear hxo
                      go_wp2_with fail
                      refine wp_tailq 31 (by kernel_rfl) (by kernel_rfl) (fun w2 hx2 hf2 hh2 hb2 KK HKK => ?_)
                      have hl1 := HL1.out w2 hh2.out
                      have HBp := Lib.hid (hb2.out _ _ HBq.out)
                      have HTp : Hid (TableAt w2 tb mb most (mput (mdel l o') xc (xn, false))) := Lib.hid (HTq.out.of_blk (by rw [hh2.out]) (by rw [hh2.out]))
                      clear hh2 hb2
                      simp only [List.take_succ_cons, List.take_zero, List.drop_succ_cons, List.drop_zero]
                      repeat (go_big_quiet_step (fail))
                      refine wpQuiet_nil ?_
                      refine HKK.out _ ?_
                      go_wp2_with fail
                      go_roundw
                      case rel => exact ⟨j + 1, by omega, by go_num, HBp⟩
                      case measure => simp [intOf]; omega
                    · have hxb : (x != o') = true := by simpa using hxo
                      have HXS := Lib.hid (HXS.out hxo)
                      clear hxo
                      go_wp2_with fail
                      refine wp_tailq 31 (by kernel_rfl) (by kernel_rfl) (fun w2 hx2 hf2 hh2 hb2 KK HKK => ?_)
                      have hl1 := HL1.out w2 hh2.out
                      have HBp := Lib.hid (hb2.out _ _ HBq.out)
                      have HTp : Hid (TableAt w2 tb mb most (mput (mdel l o') xc (xn, false))) := Lib.hid (HTq.out.of_blk (by rw [hh2.out]) (by rw [hh2.out]))
                      clear hh2 hb2
                      simp only [List.take_succ_cons, List.take_zero, List.drop_succ_cons, List.drop_zero]
                      repeat (go_big_quiet_step (fail))
                      refine wpQuiet_nil ?_
                      refine HKK.out _ ?_
                      clear hl1 hx2 hf2
                      have hH := has_ok tb mb most _ x w2 HTp.out hm0
                      rw [HXS.out] at hH
                      have HH := Lib.hid hH
                      clear hH
                      go_wp2_with fail
                      refine HH.out.mono ?_
                      rintro e w3 ⟨rfl, hb3⟩
                      have HBs := Lib.hid (HBp.out.trans (hb3.mono HBp.out.size))
                      clear HH hb3
                      go_wp2_with fail
                      go_roundw
                      case rel => exact ⟨j + 1, by omega, by go_num, HBs⟩
                      case measure => simp [intOf]; omega
                · have HTq := Lib.hid (HT9.out.below HBq.out (blk_lt HT9.out.1) HT9.out.2.1.lt)
                  have HMq := Lib.hid (HM9.out.below HBq.out HM9.out.lt)
                  have HBw := Lib.hid (HB9.out.trans (HBq.out.mono HB9.out.size))
                  have hXq := bel_blk HBq.out (blk_lt HX9.out) HX9.out
                  have hx1 := blk_cell hXq 1
                  have HXq := Lib.hid hXq
                  clear hXq
                  go_wp2_with (first
                    | (at_delete; first
                      | (refine wpList_mdelete _ rfl _ _ 82 rfl keyInt Try.underlying82 ib rfl HMq.out o' rfl ?_; intro w10 hm10 hg10; have HM10 := Lib.hid hm10; have HT10 : Hid (TableAt w10 tb mb most (mput (mdel l o') xc (xn, false))) := Lib.hid (HTq.out.of_blk (hg10.block _ (blk_lt HTq.out.1) (by simp; omega)) (hg10.block _ HTq.out.2.1.lt (by simp; omega))); have HB10 := Lib.hid (below_step HBw.out hg10 hib); have hX10 := (hg10.block xb (blk_lt HXq.out) (by simp; omega)).trans HXq.out; have hx1' := blk_cell hX10 1; clear hm10 hg10)
                      | (refine wpList_mdelete _ rfl _ _ 82 rfl keyInt Try.underlying82 ib rfl HM10.out xc rfl ?_; intro w11 hm11 hg11)))
                  have hBx := HB10.out
                  have HG11 : Hid (GoesIs w w11 tb mb ib most (mput (mdel l o') xc (xn, false)) (mdel (mdel il o') xc)) := by
                    refine ⟨HT10.out.of_blk (hg11.block _ (blk_lt HT10.out.1) (by simp; omega)) (hg11.block _ HT10.out.2.1.lt (by simp; omega)), hm11, below_step HB10.out hg11 hib, HT.out, by rw [HL2.out]; exact HG5.out.len, flags_new (flags_gone HF.out _) _ _⟩
                  go_roundw
                  case rel => exact ⟨k + 1, _, _, by omega, by go_num, HG11⟩
                  case measure => simp [intOf]; omega
        · have hkn : k = n := by omega
          subst hkn
          go_wp2
          exact HR.out _ _ ⟨rfl, HG.out.below⟩
end Go.Proofs.Ytpijbdddegbjbaa
