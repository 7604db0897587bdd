/- sets.Group at names that may be. Condition: bounds on sizes. -/
import Derived.Test.YtpijbdddegbjbaaSetM
import Derived.Deep.CutRange
import Derived.Test.YtpijbdddegbjbaaTailQ
namespace Go.Proofs.Ytpijbdddegbjbaa
open Go.RowKit Go.Proofs Go.Sort
theorem cell_alloc {w : World} {o : Obj} {a : Addr} {v : Value} (h : w.cell? a = some v) : (w.alloc o).cell? a = some v := (World.cell?_alloc_some _ _ _ (by rw [h]; rfl)).trans h
theorem cell_alloc_drew {w : World} {o : Obj} {a : Addr} {v : Value} (h : w.drew.cell? a = some v) : (w.alloc o).drew.cell? a = some v := cell_alloc (w := w) h
theorem cell_setb {w : World} {a : Addr} {v x : Value} {b j : Nat} (h : w.cell? a = some v) (hne : a.block ≠ b) : (w.setCell ⟨b, j, none⟩ x).cell? a = some v := (World.cell?_of_block (Below.heap_setCell _ _ _ _ hne)).trans h
theorem bel_alloc_drew {B : Nat} {w0 w : World} {o : Obj} (h : Below B w0 w.drew) (hB : B ≤ w.heap.size := by first | omega | exact Nat.le_refl _) : Below B w0 (w.alloc o).drew := (h.alloc hB o : Below B w0 (w.drew.alloc o))
theorem OwnOut.other {W W' : World} {base mb : Nat} {v : Value} {L : List SV} (h : OwnOut W base v L) (hg : W.grownBy W' (some mb)) (hmb : mb < base) : OwnOut W' base v L := by
  have key : ∀ {e : TypeId} {size : Nat} {u : Value} {k : Nat} {xs : List Value}, W.ownsRow base e size u k xs → W'.ownsRow base e size u k xs := fun hr => hr.kept hg (.inr (fun e => by have := (own_lt hr _ e).1; omega))
  exact ⟨key h.1, fun p hp => ⟨(h.2.1 p hp).1, key (h.2.1 p hp).2⟩, h.2.2⟩
theorem news_two (w7 : World) (o1 : Obj) (C : Array Value) (t : TypeId) : ∀ j u, C.toList[j]? = some u → ((w7.alloc o1).alloc (.cells C t)).cell? ((⟨w7.heap.size + 1, 0, none⟩ : Addr).add j) = some u := by
  have h := blk_new (w7.alloc o1) (.cells C t)
  rw [World.size_alloc] at h
  exact World.news_of_block h
theorem svOne (n : ByteArray) (t c ttl : Int) (d : List ByteArray) (ao : Option Addr) (m k : Nat) : ∀ u ∈ svCells ((n, t, c, ttl, d), .slice ao m k), u.oneCell' = true := by
  intro u hu
  simp [svCells] at hu
  rcases hu with rfl | rfl | rfl | rfl | rfl <;> rfl
theorem zIntG (w : World) : (zeroValue 3).run Try.prog w = .ok (.int .i64 0) w := by kernel_rfl
theorem infoSet : (Try.prog.info? 46).map (fun i => (i.zero, i.size, i.bytes)) = some (some (.agg #[.string (sb []), .int .i64 0, .int .i64 0, .int .i64 0, .slice none 0 0]), 5, 64) := by kernel_rfl
set_option maxRecDepth 100000 in
set_option maxHeartbeats 4000000 in
theorem group_ok (v : Value) (l : List RecV) (w : World) (h : RecsAt w v l) (hn : l.length ≤ 100000) (hf : ∀ r ∈ l, r.1.size ≤ 1000000000 ∧ labErr (bl r.1) = 0) :
    Calls Try.prog 29 #[v] w fun e w' => ∃ v' L, e = .returned v' ∧ OwnOut w' (w.heap.size + 1) v' L ∧ L.map (·.1) = groupM l ∧ Below w.heap.size w w' := by
  have hmm := @run_makeMap Try.prog
  obtain ⟨i0, hi, hz0, hz1, hz2⟩ := info_parts infoSet
  obtain ⟨j0, gi, gz0, gz1, gz2⟩ := info_parts infoStr
  refine hideR fun R' HR => ?_
  by_cases hne : l = []
  · subst hne
    obtain ⟨ao, cap, rfl⟩ := h.nil
    go_enter Try.func29, Try.ntmps29
    go_wp2
    refine wp_loop_rounds 1 ?_
    rw [rounds_succ]
    go_wp2
    exact HR.out _ _ ⟨_, [], rfl, OwnOut.nil _ _, rfl, (Below.refl _ _).alloc (Nat.le_refl _) _⟩
  · obtain ⟨b, o, cap, rfl, hblt, hr⟩ := h.open hne
    have HC := Lib.hid hr
    have HF := Lib.hid hf
    clear hr h hf hne
    go_enter Try.func29, Try.ntmps29
    go_wp2
    have hm0 := MapIs.made w encKey encInt
    go_loopw [3, 14] (fun ov i wr => ∃ (k : Nat) (L : List SV), k ≤ l.length ∧ i = .int .i64 k ∧ OwnOut wr (w.heap.size + 1) ov L ∧ Hid (L.map (·.1) = groupM (l.take k)) ∧ Hid (MapIs wr w.heap.size encKey encInt (idxOf (L.map (·.1)))) ∧ Hid (Below w.heap.size w wr) ∧ w.heap.size + 1 ≤ wr.heap.size) (fun _ i _ => l.length - (intOf i).toNat)
    case atStart => exact ⟨0, [], Nat.zero_le _, rfl, OwnOut.nil _ _, rfl, hm0, (Below.refl _ _).alloc (Nat.le_refl _) _, by simp⟩
    case round =>
      obtain ⟨k, L, hk, rfl, hO, HL, HM, HB, hsz⟩ := hrel
      have HO := Lib.hid hO
      clear hO hm0
      by_cases hlt : k < l.length
      · have hlt' : (k : Int) < (l.length : Int) := by omega
        obtain ⟨c0, c1, c2, c3, c4⟩ := (HC.out k hlt).below HB.out hblt
        have HLL : Hid (L.length ≤ k) := Lib.hid (by have := group_len l k hk; rw [← HL.out, List.length_map] at this; exact this)
        have HS := Lib.hid (groupM_snoc l k hlt)
        rw [← HL.out] at HS
        have hfr := HF.out l[k] (List.getElem_mem hlt)
        have LW := fun W => Lib.hid (lower_ok l[k].1 W hfr.1)
        have CK := fun W => Lib.hid (check_ok l[k].1 W hfr.1)
        rw [hfr.2] at CK
        generalize hr : l[k] = r at c0 c1 c2 c3 c4 HS LW CK
        clear hr hfr
        obtain ⟨r1, r2, r3, r4, r5⟩ := r
        dsimp only at c0 c1 c2 c3 c4 LW CK
        go_upto_region 6 with fail
        have hx6 := blk_new wr (.cells #[.string r1, .int .i64 r2, .int .i64 r3, .int .i64 r4, .string r5] 43)
        have hb6 : Below wr.heap.size wr (wr.alloc (.cells #[.string r1, .int .i64 r2, .int .i64 r3, .int .i64 r4, .string r5] 43)) := (Below.refl _ _).alloc (Nat.le_refl _) _
        have hs6 : (wr.alloc (.cells #[.string r1, .int .i64 r2, .int .i64 r3, .int .i64 r4, .string r5] 43)).heap.size = wr.heap.size + 1 := by simp
        generalize (wr.alloc (.cells #[.string r1, .int .i64 r2, .int .i64 r3, .int .i64 r4, .string r5] 43)) = W6 at *
        have HX6 := Lib.hid hx6
        have HB6 := Lib.hid hb6
        have HS6 := Lib.hid hs6
        have x0 := blk_cell hx6 0
        have x1 := blk_cell hx6 1
        have x2 := blk_cell hx6 2
        clear hx6 hb6 hs6 c0 c1 c2 c3 c4
        go_cut [7] from 18 to 25 (fun s7 wx => ∃ kb : Nat, s7 = .pointer (some ⟨kb, 0, none⟩) ∧ wx.heap[kb]? = some (.cells #[.string (lowB r1), .int .i64 r2, .int .i64 r3] 135 (0, 0)) ∧ Hid (Below W6.heap.size W6 wx))
        case first =>
          refine wp_region_noPanic ?_
          refine wp_region_heldN 10 rfl (S := fun w' => w'.cell? ⟨wr.heap.size, 0, none⟩ = some (.string r1) ∧ w'.cell? ⟨wr.heap.size, 1, none⟩ = some (.int .i64 r2) ∧ w'.cell? ⟨wr.heap.size, 2, none⟩ = some (.int .i64 r3) ∧ Below W6.heap.size W6 w') (by kernel_rfl) ⟨x0, x1, x2, (Below.refl _ _).drew⟩ (fun hHeld => ?_)
          refine wpAnyH_take (i := 0) (v := ?_) rfl (by kernel_rfl) (by kernel_rfl) (by kernel_rfl) (fun _ _ _ h => h) (Or.inl ⟨by rfl, ?_⟩) (by assumption) ?_
          rotate_left
          · (intro w hSw; (try dsimp only at hSw); go_simp; try with_reducible rfl)
          try simp only [Act.put, List.setIfInBounds_toArray, List.set_cons_zero, List.set_cons_succ]
          refine wpAnyH_take (i := 1) (v := ?_) rfl (by kernel_rfl) (by kernel_rfl) (by kernel_rfl) (fun _ _ _ h => h) (Or.inl ⟨by rfl, ?_⟩) (by assumption) ?_
          rotate_left
          · (intro w hSw; (try dsimp only at hSw); go_simp; try with_reducible rfl)
          try simp only [Act.put, List.setIfInBounds_toArray, List.set_cons_zero, List.set_cons_succ]
          refine wpAnyH_take (i := 3) (v := ?_) rfl (by kernel_rfl) (by kernel_rfl) (by kernel_rfl) (fun _ _ _ h => h) (Or.inl ⟨by rfl, ?_⟩) (by assumption) ?_
          rotate_left
          · (intro w hSw; (try dsimp only at hSw); go_simp; try with_reducible rfl)
          try simp only [Act.put, List.setIfInBounds_toArray, List.set_cons_zero, List.set_cons_succ]
          refine wpAnyH_take (i := 4) (v := ?_) rfl (by kernel_rfl) (by kernel_rfl) (by kernel_rfl) (fun _ _ _ h => h) (Or.inl ⟨by rfl, ?_⟩) (by assumption) ?_
          rotate_left
          · (intro w hSw; (try dsimp only at hSw); go_simp; try with_reducible rfl)
          try simp only [Act.put, List.setIfInBounds_toArray, List.set_cons_zero, List.set_cons_succ]
          refine wpAnyH_take (i := 5) (v := ?_) rfl (by kernel_rfl) (by kernel_rfl) (by kernel_rfl) (fun _ _ _ h => h) (Or.inl ⟨by rfl, ?_⟩) (by assumption) ?_
          rotate_left
          · (intro w hSw; (try dsimp only at hSw); go_simp; try with_reducible rfl)
          try simp only [Act.put, List.setIfInBounds_toArray, List.set_cons_zero, List.set_cons_succ]
          refine wpAnyH_take (i := 6) (v := ?_) rfl (by kernel_rfl) (by kernel_rfl) (by kernel_rfl) (fun _ _ _ h => h) (Or.inl ⟨by rfl, ?_⟩) (by assumption) ?_
          rotate_left
          · (intro w hSw; (try dsimp only at hSw); go_simp; try with_reducible rfl)
          try simp only [Act.put, List.setIfInBounds_toArray, List.set_cons_zero, List.set_cons_succ]
          refine wpAnyH_ready (rs := [2, 8]) (by kernel_rfl) (by simp) ?_
          refine AllReadyH.cons (o := _) rfl (fun K hK => ?_) (AllReadyH.cons (o := _) rfl (fun K hK => ?_) AllReadyH.nil)
          ·
            go_simp
            go_wp2_with fail
            refine (LW _).out.mono ?_
            rintro e w2 ⟨rfl, xb2⟩
            go_simp
            refine hK.out _ _ ⟨bel_cell xb2 (cell_lt hHeld.1) hHeld.1, bel_cell xb2 (cell_lt hHeld.2.1) hHeld.2.1, bel_cell xb2 (cell_lt hHeld.2.2.1) hHeld.2.2.1, hHeld.2.2.2.trans (xb2.mono hHeld.2.2.2.size)⟩ (fun hHeld2 => ?_)
            clear hK K
            try simp only [Act.put, List.setIfInBounds_toArray, List.set_cons_zero, List.set_cons_succ]
            refine wpAnyH_take (i := 7) (v := ?_) rfl (by kernel_rfl) (by kernel_rfl) (by kernel_rfl) (fun _ _ _ h => h) (Or.inl ⟨by rfl, ?_⟩) (by assumption) ?_
            rotate_left
            · (intro w hSw; (try dsimp only at hSw); go_simp; try with_reducible rfl)
            try simp only [Act.put, List.setIfInBounds_toArray, List.set_cons_zero, List.set_cons_succ]
            refine wpAnyH_ready (rs := [8]) (by kernel_rfl) (by simp) ?_
            refine AllReadyH.cons (o := _) rfl (fun K hK => ?_) AllReadyH.nil
            go_simp
            refine hK.out _ _ ⟨cell_alloc hHeld2.1, cell_alloc hHeld2.2.1, cell_alloc hHeld2.2.2.1, hHeld2.2.2.2.alloc hHeld2.2.2.2.size _⟩ (fun hHeld3 => ?_)
            clear hK K
            try simp only [Act.put, List.setIfInBounds_toArray, List.set_cons_zero, List.set_cons_succ]
            refine wpAnyH_ready (rs := [9]) (by kernel_rfl) (by simp) ?_
            refine AllReadyH.cons (o := _) rfl (fun K hK => ?_) AllReadyH.nil
            go_simp
            refine hK.out _ _ ⟨cell_alloc hHeld2.1, cell_alloc hHeld2.2.1, cell_alloc hHeld2.2.2.1, hHeld2.2.2.2.alloc hHeld2.2.2.2.size _⟩ (fun hHeld4 => ?_)
            clear hK K
            try simp only [Act.put, List.setIfInBounds_toArray, List.set_cons_zero, List.set_cons_succ]
            refine wpAnyH_done (by kernel_rfl) ?_ _
            refine NoPanic.normal ?_
            go_wp2_with fail
            go_meet
            case rel => exact ⟨w2.heap.size, rfl, blk_new w2 (.cells #[.string (lowB r1), .int .i64 r2, .int .i64 r3] 135), hHeld4.2.2.2⟩
          ·
            go_simp
            refine hK.out _ _ ⟨cell_alloc_drew hHeld.1, cell_alloc_drew hHeld.2.1, cell_alloc_drew hHeld.2.2.1, bel_alloc_drew hHeld.2.2.2⟩ (fun hHeld2 => ?_)
            clear hK K
            try simp only [Act.put, List.setIfInBounds_toArray, List.set_cons_zero, List.set_cons_succ]
            refine wpAnyH_ready (rs := [2]) (by kernel_rfl) (by simp) ?_
            refine AllReadyH.cons (o := _) rfl (fun K hK => ?_) AllReadyH.nil
            go_simp
            go_wp2_with fail
            refine (LW _).out.mono ?_
            rintro e w2 ⟨rfl, xb2⟩
            have hkb := bel_blk xb2 (by show W6.heap.size < _; simp) (blk_new W6 (.cells #[.string (sb []), .int .i64 0, .int .i64 0] 135))
            have k0 := blk_cell hkb 0
            have k1 := blk_cell hkb 1
            have k2 := blk_cell hkb 2
            have f0 := blk_free hkb 0 (.inr rfl)
            have f1 := blk_free hkb 1 (.inr rfl)
            have f2 := blk_free hkb 2 (.inr rfl)
            go_simp
            refine hK.out _ _ ⟨bel_cell xb2 (cell_lt hHeld2.1) hHeld2.1, bel_cell xb2 (cell_lt hHeld2.2.1) hHeld2.2.1, bel_cell xb2 (cell_lt hHeld2.2.2.1) hHeld2.2.2.1, hHeld2.2.2.2.trans (xb2.mono hHeld2.2.2.2.size)⟩ (fun hHeld3 => ?_)
            clear hK K
            try simp only [Act.put, List.setIfInBounds_toArray, List.set_cons_zero, List.set_cons_succ]
            refine wpAnyH_take (i := 7) (v := ?_) rfl (by kernel_rfl) (by kernel_rfl) (by kernel_rfl) (fun _ _ _ h => h) (Or.inl ⟨by rfl, ?_⟩) (by assumption) ?_
            rotate_left
            · (intro w hSw; (try dsimp only at hSw); go_simp; try with_reducible rfl)
            try simp only [Act.put, List.setIfInBounds_toArray, List.set_cons_zero, List.set_cons_succ]
            refine wpAnyH_ready (rs := [9]) (by kernel_rfl) (by simp) ?_
            refine AllReadyH.cons (o := _) rfl (fun K hK => ?_) AllReadyH.nil
            go_simp
            have hne6 : wr.heap.size ≠ W6.heap.size := by have := HS6.out; omega
            refine hK.out _ _ ⟨cell_setb (cell_setb (cell_setb hHeld3.1 hne6) hne6) hne6, cell_setb (cell_setb (cell_setb hHeld3.2.1 hne6) hne6) hne6, cell_setb (cell_setb (cell_setb hHeld3.2.2.1 hne6) hne6) hne6, ((hHeld3.2.2.2.setCell (p := ⟨W6.heap.size, 0, none⟩) (Nat.le_refl _) _).setCell (p := ⟨W6.heap.size, 1, none⟩) (Nat.le_refl _) _).setCell (p := ⟨W6.heap.size, 2, none⟩) (Nat.le_refl _) _⟩ (fun hHeld4 => ?_)
            clear hK K
            try simp only [Act.put, List.setIfInBounds_toArray, List.set_cons_zero, List.set_cons_succ]
            refine wpAnyH_done (by kernel_rfl) ?_ _
            refine NoPanic.normal ?_
            go_wp2_with fail
            go_meet
            case rel => exact ⟨W6.heap.size, rfl, blk_set (blk_set (blk_set hkb 0 _) 1 _) 2 _, hHeld4.2.2.2⟩
        case rest =>
          obtain ⟨kb, rfl, hkb, HBC⟩ := hcut
          have q0 := blk_cell hkb 0
          have q1 := blk_cell hkb 1
          have q2 := blk_cell hkb 2
          have hsz6 := HS6.out
          have hxc := bel_blk HBC.out (by omega) HX6.out
          have HXC := Lib.hid hxc
          have y0 := blk_cell hxc 0
          have y1 := blk_cell hxc 1
          have y2 := blk_cell hxc 2
          have y3 := blk_cell hxc 3
          have y4 := blk_cell hxc 4
          have HBW : Hid (Below wr.heap.size wr wc) := Lib.hid (HB6.out.trans (HBC.out.mono (by omega)))
          have hsc : W6.heap.size ≤ wc.heap.size := HBC.out.size
          have HOc := Lib.hid (HO.out.below HBW.out (Nat.le_refl _))
          have hMc := HM.out.below HBW.out HM.out.lt
          have HBB : Hid (Below w.heap.size w wc) := Lib.hid (HB.out.trans (HBW.out.mono HB.out.size))
          have HK : Hid (∀ k', k' = keyR (r1, r2, r3, r4, r5) → True) := Lib.hid fun _ _ => trivial
          have hmg := mget_idx (L.map (·.1)) (keyR (r1, r2, r3, r4, r5))
          obtain ⟨ao, ov, hov⟩ : ∃ ao c, u3 = .slice ao L.length c := by
            rcases HO.out.1.2 with ⟨h, h0⟩ | ⟨g, c, _, h, _⟩
            · exact ⟨none, 0, by rw [h0]; exact h⟩
            · exact ⟨_, _, h⟩
          subst hov
          have hLb : L.length ≤ 100000 := by have := HLL.out; omega
          clear hkb hxc x0 x1 x2
          cases hp : placeOf (L.map (·.1)) (keyR (r1, r2, r3, r4, r5)) with
          | none =>
            rw [hp] at hmg
            rw [step_new hp] at HS
            have HP := Lib.hid hp
            clear hp
            go_wp2_with (first
              | (at_lookup; refine wpList_look_none _ rfl _ _ 132 rfl keySets Try.underlying132 w.heap.size rfl hMc (keyR (r1, r2, r3, r4, r5)) rfl (zIntG _) hmg ?_)
              | (at_mapUpdate; refine wpList_mstore _ rfl _ _ _ 132 rfl keySets Try.underlying132 w.heap.size rfl hMc (keyR (r1, r2, r3, r4, r5)) rfl (L.length : Int) rfl ?_; intro w7 hM7 hg7; have hx7 := (hg7.block wr.heap.size (by omega) (by simp; omega)).trans HXC.out; have z0 := blk_cell hx7 0; have z1 := blk_cell hx7 1; have z2 := blk_cell hx7 2; have z3 := blk_cell hx7 3; have z4 := blk_cell hx7 4; have hO7 := HOc.out.other hg7 (by omega); have hs7 := hg7.size)
              | (at_builtin; refine wpList_append_own _ rfl _ _ 48 rfl (w.heap.size + 1) 46 i0 (.agg #[.string (sb []), .int .i64 0, .int .i64 0, .int .i64 0, .slice none 0 0]) 5 64 Try.underlying48 hi hz0 hz1 hz2 rfl (by decide) _ L.length _ rfl ((hO7.1.alloc _).alloc _) ⟨w7.heap.size + 1, 0, none⟩ 1 1 (svCells ((r1, r2, r3, r4, [r5]), .slice (some ⟨w7.heap.size, 0, none⟩) 1 1)) rfl rfl (news_two _ _ _ _) (svOne _ _ _ _ _ _ _ _) (by unfold maxLen; omega) (by omega) (by simp; omega) ?_; intro v8 w8 hown8 hg8 _))
            go_roundw
            case rel =>
              have hO8 := hO7.push (by omega) _ r1 r5 r2 r3 r4 hg8 hown8
              have hgr : w7.grownBy w8 (Value.slice ao L.length ov).ownBlock := grown_trans (World.grownBy_alloc _ _ _) (grown_trans (World.grownBy_alloc _ _ _) hg8)
              have hkeys : (L ++ [(((r1, r2, r3, r4, [r5]) : SetV), Value.slice (some ⟨w7.heap.size, 0, none⟩) 1 1)]).map (·.1) = L.map (·.1) ++ [newSet (r1, r2, r3, r4, r5)] := by simp [newSet]
              refine ⟨k + 1, _, by omega, by go_num, hO8, ?_, ?_, ?_, ?_⟩
              · rw [HS.out, hkeys]; exact Lib.hid rfl
              · rw [hkeys, idxOf_new, List.length_map]
                rw [mput_new _ (by rw [hmg]; rfl)] at hM7
                refine Lib.hid (MapIs.of_blk hM7 (hgr.block _ hM7.lt (fun e => ?_)))
                have := (own_lt hO7.1 _ e.symm).1
                omega
              · refine Lib.hid ((HBB.out.grown hg7 HBB.out.size (fun k e => by cases e; exact Nat.le_refl _)).grown hgr (by have := HBB.out.size; omega) (fun k e => ?_))
                have := (own_lt hO7.1 _ e).1
                omega
              · have := hgr.size; omega
            case measure => simp [intOf]; omega
          | some i =>
            rw [hp] at hmg
            rw [step_old hp] at HS
            obtain ⟨hil, _⟩ := placeOf_some hp
            rw [List.length_map] at hil
            have hne : L ≠ [] := by rintro rfl; simp at hil
            obtain ⟨g, gc, hgv⟩ := HOc.out.head hne
            simp only [Value.slice.injEq, true_and] at hgv
            obtain ⟨rfl, rfl⟩ := hgv
            have hil' : (i : Int) < (L.length : Int) := by omega
            have hi0 : (0 : Int) ≤ (i : Int) := by omega
            obtain ⟨⟨s0, s1, s2, s3, s4⟩, sf, sg, sl⟩ := HOc.out.at i hil
            have sf3 := sf 3 (by omega)
            clear hp
            go_wp2_with (first
              | (at_lookup; refine wpList_look_some _ rfl _ _ 132 rfl keySets Try.underlying132 w.heap.size rfl hMc (keyR (r1, r2, r3, r4, r5)) rfl (zIntG _) hmg ?_)
              | fail)
            refine (CK _).out.mono ?_
            rintro e w7 ⟨rfl, hb7⟩
            have hO7 := HOc.out.below hb7 (Nat.le_refl _)
            have hx7 := bel_blk hb7 (by omega) HXC.out
            have z3 := blk_cell hx7 3
            have HB7 : Hid (Below w.heap.size w w7) := Lib.hid (HBB.out.trans (hb7.mono HBB.out.size))
            have HM7 := Lib.hid (hMc.below hb7 hMc.lt)
            have HO7 := Lib.hid hO7
            have HX7 := Lib.hid hx7
            have hs7 : wc.heap.size ≤ w7.heap.size := hb7.size
            obtain ⟨⟨_, _, _, t3, t4⟩, tf, _, _⟩ := hO7.at i hil
            have tf3 := tf 3 (by omega)
            clear hO7 hx7 s0 s1 s2 s3 s4 sf sf3 y0 y1 y2 y3 y4 q0 q1 q2 hMc hb7 tf
            go_wp2_with fail
            refine wp_tailq 10 (by kernel_rfl) (by kernel_rfl) (fun w2 hx2 hf2 hh2 hb2 KK HKK => ?_)
            have hbe2 := hb2.out _ _ (Below.refl w7.heap.size w7)
            have hz2 : w2.heap.size = w7.heap.size := by rw [hh2.out]
            have HO2 := Lib.hid ((HO7.out.below hbe2 (Nat.le_refl _)).ttl i hil (min L[i].1.2.2.2.1 r4))
            have HB2 := Lib.hid (hb2.out _ _ HB7.out)
            have HM2 : Hid (MapIs w2 w.heap.size encKey encInt (idxOf (L.map (·.1)))) := Lib.hid (MapIs.of_blk HM7.out (by rw [hh2.out]))
            have HX2 : Hid (w2.heap[wr.heap.size]? = _) := Lib.hid ((by rw [hh2.out] : w2.heap[wr.heap.size]? = w7.heap[wr.heap.size]?).trans HX7.out)
            clear hh2 hb2 hbe2
            simp only [List.take_succ_cons, List.take_zero, List.drop_succ_cons, List.drop_zero]
            repeat (go_big_quiet_step (fail))
            refine wpQuiet_nil ?_
            refine HKK.out _ ?_
            go_wp2_with fail
            have hg := List.getElem_mem hil
            have hgw : g < wr.heap.size := (HO.out.at i hil).2.2.2
            have hdb := data_block HO.out hg
            have hmn := main_ne HO.out hg
            obtain ⟨hd0, hdr⟩ := HOc.out.2.1 L[i] hg
            obtain ⟨dg, dc, hdv⟩ : ∃ dg dc, L[i].2 = .slice (some ⟨dg, 0, none⟩) L[i].1.2.2.2.2.length dc := by
              rcases hdr.2 with ⟨_, h0⟩ | ⟨dg, dc, _, e, _⟩
              · exact absurd (List.length_eq_zero_iff.1 h0) hd0
              · exact ⟨dg, dc, e⟩
            have hdg : dg < wr.heap.size ∧ w.heap.size + 1 ≤ dg := by
              obtain ⟨b', hb', h1, h2⟩ := hdb
              rw [hdv] at hb'
              simp [Value.ownBlock] at hb'
              omega
            have hgd : g ≠ dg := by
              rw [hdv] at hmn
              intro e
              exact hmn (by rw [e]; rfl)
            clear hdb hmn
            have hwr7 : wr.heap.size + 1 ≤ w7.heap.size := by omega
            have hX8 : (w2.setCell ⟨g, i * 5 + 3, none⟩ (.int .i64 (min L[i].1.2.2.2.1 r4))).heap[wr.heap.size]? = some (.cells #[.string r1, .int .i64 r2, .int .i64 r3, .int .i64 r4, .string r5] 43 (0, 0)) := by
              refine (Below.heap_setCell _ _ _ _ ?_).trans HX2.out
              show wr.heap.size ≠ g; omega
            have HX8 := Lib.hid hX8
            have HB8 := Lib.hid (HB2.out.setCell (p := ⟨g, i * 5 + 3, none⟩) (by show _ ≤ g; omega) (.int .i64 (min L[i].1.2.2.2.1 r4)))
            have HM8 : Hid (MapIs (w2.setCell ⟨g, i * 5 + 3, none⟩ (.int .i64 (min L[i].1.2.2.2.1 r4))) w.heap.size encKey encInt (idxOf (L.map (·.1)))) := Lib.hid (MapIs.of_blk HM2.out (Below.heap_setCell _ _ _ _ (by show w.heap.size ≠ g; omega)))
            have hz8 : w7.heap.size ≤ (w2.setCell ⟨g, i * 5 + 3, none⟩ (.int .i64 (min L[i].1.2.2.2.1 r4))).heap.size := by simp [World.setCell, hz2]
            generalize w2.setCell ⟨g, i * 5 + 3, none⟩ (.int .i64 (min L[i].1.2.2.2.1 r4)) = w8 at *
            clear hx2 hf2 z3 t3 t4 tf3 hX8 HX2 HB2 HM2 hdr
            have hq8 : ∀ (q : SV) (h : i < (L.set i q).length), (L.set i q)[i] = q := fun q h => List.getElem_set_self ..
            have HO8 : Hid (OwnOut w8 (w.heap.size + 1) (.slice (some ⟨g, 0, none⟩) (L.set i ((L[i].1.1, L[i].1.2.1, L[i].1.2.2.1, min L[i].1.2.2.2.1 r4, L[i].1.2.2.2.2), L[i].2)).length ov) (L.set i ((L[i].1.1, L[i].1.2.1, L[i].1.2.2.1, min L[i].1.2.2.2.1 r4, L[i].1.2.2.2.2), L[i].2))) := by
              rw [List.length_set]; exact HO2
            have hil8 : i < (L.set i ((L[i].1.1, L[i].1.2.1, L[i].1.2.2.1, min L[i].1.2.2.2.1 r4, L[i].1.2.2.2.2), L[i].2)).length := by rw [List.length_set]; exact hil
            obtain ⟨⟨_, _, _, _, t4⟩, tf, _, _⟩ := HO8.out.at i hil8
            rw [hq8] at t4
            have tf4 := tf 4 (by omega)
            have z4 := blk_cell HX8.out 4
            have hrow := (HO8.out.2.1 _ (List.getElem_mem hil8)).2
            rw [hq8] at hrow
            dsimp only at t4 hrow
            rw [hdv] at t4 hrow
            have hdl : L[i].1.2.2.2.2.length ≤ 1000000 := by
              have := group_data_len l k hk L[i].1 (by rw [← HL.out]; exact List.mem_map_of_mem hg)
              omega
            have HROW2 : Hid (w8.ownsRow (w.heap.size + 1) 9 1 (.slice (some ⟨dg, 0, none⟩) L[i].1.2.2.2.2.length dc) L[i].1.2.2.2.2.length (L[i].1.2.2.2.2.map Value.string)) := Lib.hid hrow
            have hdc : ∀ j (h : j < L[i].1.2.2.2.2.length), w8.cell? ⟨dg, j, none⟩ = some (.string L[i].1.2.2.2.2[j]) := fun j h => by
              rw [(row_cell hrow j (by omega)).1]; simp [h]
            have CT := fun n => Lib.hid (Try.slices_Contains_string dg 0 L[i].1.2.2.2.2.length dc L[i].1.2.2.2.2 r5 (w8.drewN n) (Nat.le_refl _) (by omega) (fun j hj => by rw [Nat.zero_add, World.cell?_drewN, hdc j hj]; simp [hj]))
            rw [List.take_length] at CT
            have HROW := Lib.hid hrow
            have HDV := Lib.hid hdv
            have HQ8 := Lib.hid hq8
            have HCS : Hid (∀ b, Lib.containsS L[i].1.2.2.2.2 r5 = b → addTo (r1, r2, r3, r4, r5) L[i].1 = (L[i].1.1, L[i].1.2.1, L[i].1.2.2.1, min L[i].1.2.2.2.1 r4, if b = true then L[i].1.2.2.2.2 else L[i].1.2.2.2.2 ++ [r5])) := Lib.hid (fun b hb => by rw [← hb]; rfl)
            cases hcs : Lib.containsS L[i].1.2.2.2.2 r5 with
            | true =>
              have HCS := Lib.hid (HCS.out _ hcs)
              rw [hcs] at CT
              clear hcs hrow hdv hdc hq8 tf
              go_quiet ((go_at_call 98; exact Calls.quiet_of_same (CT _).out))
              go_wp2_with fail
              go_roundw
              case rel =>
                have hset : (L.set i ((L[i].1.1, L[i].1.2.1, L[i].1.2.2.1, min L[i].1.2.2.2.1 r4, L[i].1.2.2.2.2), L[i].2)).map (·.1) = (L.map (·.1)).modify i (addTo (r1, r2, r3, r4, r5)) := by
                  rw [modify_set _ i (by simpa using hil), List.map_set, List.getElem_map, HCS.out]; rfl
                refine ⟨k + 1, _, by omega, by go_num, by rw [← List.length_set (i := i)]; exact HO8.out.below (bel_drewN (Below.refl _ _) nq) (Nat.le_refl _), ?_, ?_, ?_, ?_⟩
                · rw [HS.out, hset]; exact Lib.hid rfl
                · rw [hset, idxOf_mod _ (addTo_key _)]; exact HM8
                · exact bel_drewN HB8.out nq
                · show _ ≤ w8.heap.size; omega
              case measure => simp [intOf]; omega
            | false =>
              have HCS := Lib.hid (HCS.out _ hcs)
              rw [hcs] at CT
              clear hcs hrow hdv hdc hq8 tf
              go_quiet ((go_at_call 98; exact Calls.quiet_of_same (CT _).out))
              go_wp2_with fail
              refine wp_region_noPanic ?_
              refine wp_region_last' 11 (by rfl) (by rfl) (S := fun w' => w'.cell? ⟨g, i * 5 + 4, none⟩ = some (.slice (some ⟨dg, 0, none⟩) L[i].1.2.2.2.2.length dc) ∧ w'.cell? ⟨wr.heap.size, 4, none⟩ = some (.string r5)) (by kernel_rfl) (by kernel_rfl) ⟨t4, z4⟩ (fun hHeld => ?_)
              simp only [List.take_succ_cons, List.take_zero]
              refine wpAnyH_take (i := 0) (v := ?_) rfl (by kernel_rfl) (by kernel_rfl) (by kernel_rfl) (fun _ _ _ h => h) (Or.inl ⟨by rfl, ?_⟩) (by assumption) ?_
              rotate_left
              · (intro w hSw; (try dsimp only at hSw); go_simp; try with_reducible rfl)
              try simp only [Act.put, List.setIfInBounds_toArray, List.set_cons_zero, List.set_cons_succ]
              refine wpAnyH_take (i := 1) (v := ?_) rfl (by kernel_rfl) (by kernel_rfl) (by kernel_rfl) (fun _ _ _ h => h) (Or.inl ⟨by rfl, ?_⟩) (by assumption) ?_
              rotate_left
              · (intro w hSw; (try dsimp only at hSw); go_simp; try with_reducible rfl)
              try simp only [Act.put, List.setIfInBounds_toArray, List.set_cons_zero, List.set_cons_succ]
              refine wpAnyH_take (i := 2) (v := ?_) rfl (by kernel_rfl) (by kernel_rfl) (by kernel_rfl) (fun _ _ _ h => h) (Or.inl ⟨by rfl, ?_⟩) (by assumption) ?_
              rotate_left
              · (intro w hSw; (try dsimp only at hSw); go_simp; try with_reducible rfl)
              try simp only [Act.put, List.setIfInBounds_toArray, List.set_cons_zero, List.set_cons_succ]
              refine wpAnyH_take (i := 3) (v := ?_) rfl (by kernel_rfl) (by kernel_rfl) (by kernel_rfl) (fun _ _ _ h => h) (Or.inl ⟨by rfl, ?_⟩) (by assumption) ?_
              rotate_left
              · (intro w hSw; (try dsimp only at hSw); go_simp; try with_reducible rfl)
              try simp only [Act.put, List.setIfInBounds_toArray, List.set_cons_zero, List.set_cons_succ]
              refine wpAnyH_take (i := 4) (v := ?_) rfl (by kernel_rfl) (by kernel_rfl) (by kernel_rfl) (fun _ _ _ h => h) (Or.inl ⟨by rfl, ?_⟩) (by assumption) ?_
              rotate_left
              · (intro w hSw; (try dsimp only at hSw); go_simp; try with_reducible rfl)
              try simp only [Act.put, List.setIfInBounds_toArray, List.set_cons_zero, List.set_cons_succ]
              refine wpAnyH_take (i := 5) (v := ?_) rfl (by kernel_rfl) (by kernel_rfl) (by kernel_rfl) (fun _ _ _ h => h) (Or.inl ⟨by rfl, ?_⟩) (by assumption) ?_
              rotate_left
              · (intro w hSw; (try dsimp only at hSw); go_simp; try with_reducible rfl)
              try simp only [Act.put, List.setIfInBounds_toArray, List.set_cons_zero, List.set_cons_succ]
              refine wpAnyH_take (i := 6) (v := ?_) rfl (by kernel_rfl) (by kernel_rfl) (by kernel_rfl) (fun _ _ _ h => h) (Or.inl ⟨by rfl, ?_⟩) (by assumption) ?_
              rotate_left
              · (intro w hSw; (try dsimp only at hSw); go_simp; try with_reducible rfl)
              try simp only [Act.put, List.setIfInBounds_toArray, List.set_cons_zero, List.set_cons_succ]
              refine wpAnyH_ready (rs := [7]) (by kernel_rfl) (by simp) ?_
              refine AllReadyH.cons (o := _) rfl (fun K hK => ?_) AllReadyH.nil
              go_simp
              refine hK.out _ _ ⟨cell_alloc hHeld.1, cell_alloc hHeld.2⟩ (fun hHeld2 => ?_)
              clear hK K
              try simp only [Act.put, List.setIfInBounds_toArray, List.set_cons_zero, List.set_cons_succ]
              refine wpAnyH_ready (rs := [8]) (by kernel_rfl) (by simp) ?_
              refine AllReadyH.cons (o := _) rfl (fun K hK => ?_) AllReadyH.nil
              refine step_append_lies _ (by rfl) (.tmp 84) (.tmp 87) 44 (by rfl) (w.heap.size + 1) 9 j0 (.string (sb [])) 1 16 Try.underlying44 gi gz0 gz1 gz2 rfl (by omega) (.slice (some ⟨dg, 0, none⟩) L[i].1.2.2.2.2.length dc) L[i].1.2.2.2.2.length _ (by rfl) (HROW2.out.alloc _) ⟨w8.heap.size, 0, none⟩ 1 1 [.string r5] (by rfl) rfl (cell_one_new _ _ _) (by simp [Value.oneCell']) (by omega) (by unfold maxLen; omega) (by omega) (by simp; omega) (w8.heap.size + 1) (by simp) ?_
              intro g9 cap9 w9 hown9 hgr9 hat9 hlt9
              refine hK.out _ _ ⟨(World.cell?_of_block (hgr9.block g (by simp; omega) (by simp [Value.ownBlock]; omega))).trans hHeld2.1, (World.cell?_of_block (hgr9.block wr.heap.size (by simp; omega) (by simp [Value.ownBlock]; omega))).trans hHeld2.2⟩ (fun hHeld3 => ?_)
              clear hK K
              try simp only [Act.put, List.setIfInBounds_toArray, List.set_cons_zero, List.set_cons_succ]
              refine wpAnyH_take (i := 9) (v := ?_) rfl (by kernel_rfl) (by kernel_rfl) (by kernel_rfl) (fun _ _ _ h => h) (Or.inl ⟨by rfl, ?_⟩) (by assumption) ?_
              rotate_left
              · (intro w hSw; (try dsimp only at hSw); go_simp; try with_reducible rfl)
              try simp only [Act.put, List.setIfInBounds_toArray, List.set_cons_zero, List.set_cons_succ]
              refine wpAnyH_take (i := 10) (v := ?_) rfl (by kernel_rfl) (by kernel_rfl) (by kernel_rfl) (fun _ _ _ h => h) (Or.inl ⟨by rfl, ?_⟩) (by assumption) ?_
              rotate_left
              · (intro w hSw; (try dsimp only at hSw); go_simp; try with_reducible rfl)
              try simp only [Act.put, List.setIfInBounds_toArray, List.set_cons_zero, List.set_cons_succ]
              refine wpAnyH_done (by kernel_rfl) ?_ _
              have hfz : w9.frozen? ⟨g, i * 5 + 4, none⟩ = false := (World.frozen?_of_block ((hgr9.block g (by simp; omega) (by simp [Value.ownBlock]; omega)).trans (Below.heap_alloc _ _ _ (by show g < w8.heap.size; omega)))).trans tf4
              have hcz := hHeld3.1
              show wpList _ _ _ _ _ _
              go_wp2_with fail
              refine NoPanic.normal ?_
              go_wp2_with fail
              go_roundw
              case rel =>
                have hgr : (w8.alloc (.cells #[.string r5] 9)).grownBy w9 (some dg) := ⟨hgr9.os, hgr9.tape, hgr9.output, hgr9.size, hgr9.block⟩
                have hO9 := HO8.out.text' i hil8 (.cells #[.string r5] 9) r5 (.slice (some ⟨g9, 0, none⟩) (L[i].1.2.2.2.2.length + 1) cap9) _ (HQ8.out _ hil8) (by dsimp only; rw [HDV.out]; exact hgr) (by rw [List.map_append]; exact hown9) (by
                  dsimp only
                  rw [HDV.out]
                  rcases hat9 with e | e
                  · exact .inl e.symm
                  · exact .inr ⟨g9, rfl, by omega⟩)
                dsimp only at hO9
                have hset : (((L.set i ((L[i].1.1, L[i].1.2.1, L[i].1.2.2.1, min L[i].1.2.2.2.1 r4, L[i].1.2.2.2.2), L[i].2)).set i ((L[i].1.1, L[i].1.2.1, L[i].1.2.2.1, min L[i].1.2.2.2.1 r4, L[i].1.2.2.2.2 ++ [r5]), Value.slice (some ⟨g9, 0, none⟩) (L[i].1.2.2.2.2.length + 1) cap9)).map (·.1)) = (L.map (·.1)).modify i (addTo (r1, r2, r3, r4, r5)) := by
                  rw [List.set_set, modify_set _ i (by simpa using hil), List.map_set, List.getElem_map, HCS.out]; rfl
                rw [List.length_set] at hO9
                have hg0 : w8.grownBy w9 (some dg) := grown_trans (World.grownBy_alloc _ _ _) hgr
                have hB9 := (HB8.out.grown hg0 (by omega) (fun k e => by cases e; omega)).setCell (p := ⟨g, i * 5 + 4, none⟩) (by show _ ≤ g; omega) (.slice (some ⟨g9, 0, none⟩) (L[i].1.2.2.2.2.length + 1) cap9)
                refine ⟨k + 1, _, by omega, by go_num, hO9, ?_, ?_, hB9, ?_⟩
                · rw [HS.out, hset]; exact Lib.hid rfl
                · rw [hset, idxOf_mod _ (addTo_key _)]
                  exact Lib.hid (MapIs.of_blk HM8.out ((Below.heap_setCell _ _ _ _ (by show w.heap.size ≠ g; omega)).trans (hg0.block _ HM8.out.lt (by simp; omega))))
                · have := hg0.size
                  simp only [World.setCell, Array.size_modify]
                  omega
              case measure => simp [intOf]; omega
      · have hkl : k = l.length := by omega
        subst hkl
        have hlt' : ¬ ((l.length : Int) < (l.length : Int)) := by omega
        go_wp2
        refine HR.out _ _ ⟨_, L, rfl, HO.out, ?_, HB.out⟩
        have := HL.out
        rw [List.take_length] at this
        exact this
end Go.Proofs.Ytpijbdddegbjbaa
