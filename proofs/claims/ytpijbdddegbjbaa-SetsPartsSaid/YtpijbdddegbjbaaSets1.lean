/- Sets in memory; sets.Least, sets.Same. Condition: bounds on sizes. -/
import Derived.Test.YtpijbdddegbjbaaSetC
import Derived.Test.YtpijbdddegbjbaaShelf
import Derived.Deep.RegionHeld3
import Derived.Test.YtpijbdddegbjbaaLast
namespace Go.Proofs.Ytpijbdddegbjbaa
open Go.RowKit Go.Proofs Go.Sort
theorem putB {α : Type} [Inhabited α] (enc : α → Value) (w : World) (blk off q : Nat) (d : Array α) (k : Nat) (h : k ≠ blk) : (putRow enc (Sort.ahead w q) blk off d).heap[k]? = w.heap[k]? := by
  show (w.heap.modify blk _)[k]? = _
  rw [Array.getElem?_modify, if_neg (fun e => h e.symm)]
/-- Texts in order. -/
def sortB (l : List ByteArray) : List ByteArray := ((l.map bl).mergeSort fun x y => decide (x ≤ y)).map sb
theorem sortB_len (l : List ByteArray) : (sortB l).length = l.length := by simp [sortB]
/-- slices.Sort at texts that the call owns. -/
theorem sortS_ok (g cap : Nat) (l : List ByteArray) (w : World) (hg : g < w.heap.size) (hn : l.length ≤ 1000000000) (hc : ∀ j (h : j < l.length), w.cell? ⟨g, j, none⟩ = some (.string l[j]) ∧ w.frozen? ⟨g, j, none⟩ = false) :
    Calls Try.prog 101 #[.slice (some ⟨g, 0, none⟩) l.length cap] w fun e w' => e = .returned (.tuple #[]) ∧ w.grownBy w' (some g) ∧ ∀ j (h : j < (sortB l).length), w'.cell? ⟨g, j, none⟩ = some (.string (sortB l)[j]) := by
  have hH : Holds Proofs.encStr w g 0 (l.map bl).toArray := by
    intro j hj
    have hj' : j < l.length := by simpa using hj
    rw [Nat.zero_add]
    have := hc j hj'
    refine ⟨?_, this.2⟩
    rw [this.1]
    simp [hj', Proofs.encStr, bl]
  have := Try.slices_Sort_string g 0 cap (l.map bl) w hH hg (by simp; omega)
  rw [List.length_map] at this
  refine this.mono ?_
  rintro e w' ⟨rfl, n, os, rfl⟩
  have hsz : (putRow Proofs.encStr (Sort.ahead w n) g 0 ((l.map bl).mergeSort fun x y => decide (x ≤ y)).toArray).heap.size = w.heap.size := Go.Sort.size_putRow ..
  refine ⟨rfl, ⟨rfl, rfl, rfl, ?_, ?_⟩, ?_⟩
  · rw [size_grow, hsz]; omega
  · intro k hk hne
    rw [Sort.heap_grow_old _ _ (by rw [hsz]; exact hk), putB _ _ _ _ _ _ _ (fun e => hne (by rw [e]))]
  · intro j hj
    rw [sortB_len] at hj
    have hh := Go.Sort.holds_putRow Proofs.encStr (Go.Sort.ahead w n) g 0 (l.map bl).toArray ((l.map bl).mergeSort fun x y => decide (x ≤ y)).toArray (Go.Sort.holds_ahead _ _ _ _ _ _ hH) (by simp) j (by simpa using hj)
    rw [Nat.zero_add] at hh
    rw [cell?_grow _ _ _ (by show g < _; rw [hsz]; exact hg), hh.1]
    simp [Proofs.encStr, sortB, sb, hj]
abbrev SetV := ByteArray × Int × Int × Int × List ByteArray
/-- A slice of texts, not empty. -/
def StrsAt (w : World) (dv : Value) (l : List ByteArray) : Prop :=
  l ≠ [] ∧ ∃ g o cap, dv = .slice (some ⟨g, o, none⟩) l.length cap ∧ ∀ j (h : j < l.length), w.cell? ⟨g, o + j, none⟩ = some (.string l[j])
theorem StrsAt.below {w w' : World} {dv : Value} {l : List ByteArray} (h : StrsAt w dv l) (hb : Below w.heap.size w w') : StrsAt w' dv l := by
  obtain ⟨h0, g, o, cap, rfl, h⟩ := h
  exact ⟨h0, g, o, cap, rfl, fun j hj => bel_cell hb (cell_lt (h j hj)) (h j hj)⟩
/-- The value of a set. -/
def setV (s : SetV) (dv : Value) : Value := .agg #[.string s.1, .int .i64 s.2.1, .int .i64 s.2.2.1, .int .i64 s.2.2.2.1, dv]
/-- Two sets are the same. -/
def sameSet (a b : SetV) : Bool := decide (a.2.1 = b.2.1) && decide (a.2.2.1 = b.2.2.1) && sameN (bl a.1) (bl b.1) && decide (a.2.2.2.2.length = b.2.2.2.2.length) && decide (sortB a.2.2.2.2 = sortB b.2.2.2.2)
theorem clone_ok (dv : Value) (l : List ByteArray) (w : World) (h : StrsAt w dv l) (hn : l.length ≤ 1000000000) :
    Calls Try.prog 100 #[dv] w fun e w' => ∃ g cap, e = .returned (.slice (some ⟨g, 0, none⟩) l.length cap) ∧ w.heap.size ≤ g ∧ g < w'.heap.size ∧ (∀ j (h : j < l.length), w'.cell? ⟨g, j, none⟩ = some (.string l[j]) ∧ w'.frozen? ⟨g, j, none⟩ = false) ∧ Below w.heap.size w w' := by
  obtain ⟨h0, g, o, cap, rfl, h⟩ := h
  refine (Try.slices_Clone_string g o l.length cap l w (Nat.le_refl _) (by omega) (fun j hj => by rw [h j hj]; simp [hj])).mono ?_
  rintro e w' ⟨v, rfl, ⟨h1, h2⟩, h3, hb⟩
  rcases h2 with ⟨hv, _⟩ | ⟨g', cap', cur, rfl, hg', hblk, hc1, hc2, hc3, hc4⟩
  · exact absurd hv h3
  · refine ⟨g', cap', rfl, hg', blk_lt hblk, fun j hj => ⟨?_, blk_free hblk j (.inr rfl)⟩, hb⟩
    rw [blk_cell hblk]
    have := congrArg (fun m => m[j]?) hc4
    simp only [List.take_length, List.getElem?_take, Nat.mul_one, if_pos hj, List.getElem?_map, List.getElem?_eq_getElem hj, Option.map_some] at this
    simpa using this
set_option maxRecDepth 100000 in
set_option maxHeartbeats 1000000 in
theorem setSame_ok (a b : SetV) (da db : Value) (w : World) (ha : a.1.size ≤ 1000000000) (hb : b.1.size ≤ 1000000000) (hda : StrsAt w da a.2.2.2.2) (hdb : StrsAt w db b.2.2.2.2) (hna : a.2.2.2.2.length ≤ 1000000000) (hnb : b.2.2.2.2.length ≤ 1000000000) :
    Calls Try.prog 30 #[setV a da, setV b db] w fun e w' => e = .returned (.bool (sameSet a b)) ∧ Below w.heap.size w w' := by
  obtain ⟨a1, a2, a3, a4, a5⟩ := a
  obtain ⟨b1, b2, b3, b4, b5⟩ := b
  simp only [setV] at *
  have HE : Hid (sameSet (a1, a2, a3, a4, a5) (b1, b2, b3, b4, b5) = (decide (a2 = b2) && decide (a3 = b3) && sameN (bl a1) (bl b1) && decide (a5.length = b5.length) && decide (sortB a5 = sortB b5))) := Lib.hid rfl
  generalize sameSet (a1, a2, a3, a4, a5) (b1, b2, b3, b4, b5) = r at *
  have S := fun W => Lib.hid (same_ok a1 b1 W ha hb)
  refine hideR fun R' HR => ?_
  have h0b : Below w.heap.size w ((w.alloc (.cells #[.string a1, .int .i64 a2, .int .i64 a3, .int .i64 a4, da] 46)).alloc (.cells #[.string b1, .int .i64 b2, .int .i64 b3, .int .i64 b4, db] 46)) := ((Below.refl _ _).alloc (Nat.le_refl _) _).alloc (by simp) _
  by_cases h2 : a2 = b2
  · by_cases h3 : a3 = b3
    · have h2' : (a2 != b2) = false := by simpa using h2
      have h3' : (a3 != b3) = false := by simpa using h3
      cases hs : sameN (bl a1) (bl b1) with
      | false =>
        have HE' : Hid (r = false) := by rw [HE.out, hs]; exact Lib.hid (by simp)
        rw [hs] at S
        clear h2 h3 hs
        go_enter Try.func30, Try.ntmps30
        go_wp2_with fail
        refine (S _).out.mono ?_
        rintro e w1 ⟨rfl, hb1⟩
        go_wp2
        exact HR.out _ _ ⟨by rw [HE'.out]; rfl, h0b.trans (hb1.mono h0b.size)⟩
      | true =>
        rw [hs] at S
        by_cases hl : a5.length = b5.length
        · have HE' : Hid (r = decide (sortB a5 = sortB b5)) := by rw [HE.out, hs, decide_eq_true h2, decide_eq_true h3, decide_eq_true hl]; exact Lib.hid (by simp)
          have CA := fun W h => Lib.hid (clone_ok da a5 W h hna)
          have CB := fun W h => Lib.hid (clone_ok db b5 W h hnb)
          obtain ⟨a0, ga, oa, ca, rfl, hca⟩ := hda
          obtain ⟨b0, gb, ob, cb, rfl, hcb⟩ := hdb
          have hl' : ((a5.length : Int) != (b5.length : Int)) = false := by simp [hl]
          have HDA := Lib.hid (show StrsAt w (.slice (some ⟨ga, oa, none⟩) a5.length ca) a5 from ⟨a0, ga, oa, ca, rfl, hca⟩)
          have HDB := Lib.hid (show StrsAt w (.slice (some ⟨gb, ob, none⟩) b5.length cb) b5 from ⟨b0, gb, ob, cb, rfl, hcb⟩)
          have HL := Lib.hid hl
          clear h2 h3 hs hl hca hcb a0 b0
          have hbk1 := (Below.heap_alloc (w.alloc (.cells #[.string a1, .int .i64 a2, .int .i64 a3, .int .i64 a4, .slice (some ⟨ga, oa, none⟩) a5.length ca] 46)) (.cells #[.string b1, .int .i64 b2, .int .i64 b3, .int .i64 b4, .slice (some ⟨gb, ob, none⟩) b5.length cb] 46) w.heap.size (by simp)).trans (blk_new w (.cells #[.string a1, .int .i64 a2, .int .i64 a3, .int .i64 a4, .slice (some ⟨ga, oa, none⟩) a5.length ca] 46))
          have hbk2 := blk_new (w.alloc (.cells #[.string a1, .int .i64 a2, .int .i64 a3, .int .i64 a4, .slice (some ⟨ga, oa, none⟩) a5.length ca] 46)) (.cells #[.string b1, .int .i64 b2, .int .i64 b3, .int .i64 b4, .slice (some ⟨gb, ob, none⟩) b5.length cb] 46)
          rw [World.size_alloc] at hbk2
          have HK1 := Lib.hid hbk1
          have HK2 := Lib.hid hbk2
          clear hbk1 hbk2
          go_enter Try.func30, Try.ntmps30
          go_wp2_with fail
          refine (S _).out.mono ?_
          rintro e w1 ⟨rfl, hb1⟩
          have hk1 := bel_blk hb1 (by simp; omega) HK1.out
          have hk2 := bel_blk hb1 (by simp) HK2.out
          have p4 := blk_cell hk1 4
          have q4 := blk_cell hk2 4
          have HB1 : Hid (Below w.heap.size w w1) := Lib.hid (h0b.trans (hb1.mono h0b.size))
          have hs1 : w.heap.size + 1 < w1.heap.size := by have := hb1.size; simp at this; omega
          have HW1 := Lib.hid ((HDA.out.below h0b).below hb1)
          have HW2 := Lib.hid ((HDB.out.below h0b).below hb1)
          clear hb1 hk1 hk2 h0b
          go_wp2
          refine wp_region_heldN 8 rfl (S := fun w' => w'.cell? ⟨w.heap.size, 4, none⟩ = some (.slice (some ⟨ga, oa, none⟩) a5.length ca) ∧ w'.cell? ⟨w.heap.size + 1, 4, none⟩ = some (.slice (some ⟨gb, ob, none⟩) b5.length cb) ∧ Below w1.heap.size w1 w') (by kernel_rfl) ⟨p4, q4, (Below.refl _ _).drew⟩ (fun hHeld => ?_)
          refine wpAnyH_take (i := 0) (v := ?_) rfl (by kernel_rfl) (by kernel_rfl) (by kernel_rfl) (fun _ _ _ h => h) (Or.inl ⟨by rfl, ?_⟩) (by assumption) ?_
          rotate_left
          · (intro w hSw; (try dsimp only at hSw); go_simp; try with_reducible rfl)
          try simp only [Act.put, List.setIfInBounds_toArray, List.set_cons_zero, List.set_cons_succ]
          refine wpAnyH_take (i := 1) (v := ?_) rfl (by kernel_rfl) (by kernel_rfl) (by kernel_rfl) (fun _ _ _ h => h) (Or.inl ⟨by rfl, ?_⟩) (by assumption) ?_
          rotate_left
          · (intro w hSw; (try dsimp only at hSw); go_simp; try with_reducible rfl)
          try simp only [Act.put, List.setIfInBounds_toArray, List.set_cons_zero, List.set_cons_succ]
          refine wpAnyH_take (i := 3) (v := ?_) rfl (by kernel_rfl) (by kernel_rfl) (by kernel_rfl) (fun _ _ _ h => h) (Or.inl ⟨by rfl, ?_⟩) (by assumption) ?_
          rotate_left
          · (intro w hSw; (try dsimp only at hSw); go_simp; try with_reducible rfl)
          try simp only [Act.put, List.setIfInBounds_toArray, List.set_cons_zero, List.set_cons_succ]
          refine wpAnyH_take (i := 4) (v := ?_) rfl (by kernel_rfl) (by kernel_rfl) (by kernel_rfl) (fun _ _ _ h => h) (Or.inl ⟨by rfl, ?_⟩) (by assumption) ?_
          rotate_left
          · (intro w hSw; (try dsimp only at hSw); go_simp; try with_reducible rfl)
          try simp only [Act.put, List.setIfInBounds_toArray, List.set_cons_zero, List.set_cons_succ]
          refine wpAnyH_ready (rs := [2]) (by kernel_rfl) (by simp) ?_
          refine AllReadyH.cons (o := _) rfl (fun K hK => ?_) AllReadyH.nil
          go_simp
          go_wp2_with fail
          refine (CA _ (HW1.out.below hHeld.2.2)).out.mono ?_
          rintro e w2 ⟨xg, xc, rfl, xge, xl, xx, xb⟩
          go_simp
          have HX := Lib.hid xx
          clear xx
          refine hK.out _ _ ⟨bel_cell xb (by show _ < _; have := hHeld.2.2.size; first | omega | (simp only [World.size_drew] at *; omega)) hHeld.1, bel_cell xb (by show _ < _; have := hHeld.2.2.size; first | omega | (simp only [World.size_drew] at *; omega)) hHeld.2.1, hHeld.2.2.trans (xb.mono hHeld.2.2.size)⟩ (fun hHeld2 => ?_)
          clear hK K
          try simp only [Act.put, List.setIfInBounds_toArray, List.set_cons_zero, List.set_cons_succ]
          refine wpAnyH_ready (rs := [5]) (by kernel_rfl) (by simp) ?_
          refine AllReadyH.cons (o := _) rfl (fun K hK => ?_) AllReadyH.nil
          go_simp
          go_wp2_with fail
          refine (CB _ (HW2.out.below hHeld2.2.2)).out.mono ?_
          rintro e w3 ⟨yg, yc, rfl, yge, yl, yy, yb⟩
          go_simp
          have HY := Lib.hid yy
          clear yy
          refine hK.out _ _ ⟨bel_cell yb (by show _ < _; have := hHeld2.2.2.size; first | omega | (simp only [World.size_drew] at *; omega)) hHeld2.1, bel_cell yb (by show _ < _; have := hHeld2.2.2.size; first | omega | (simp only [World.size_drew] at *; omega)) hHeld2.2.1, hHeld2.2.2.trans (yb.mono hHeld2.2.2.size)⟩ (fun hHeld3 => ?_)
          clear hK K
          try simp only [Act.put, List.setIfInBounds_toArray, List.set_cons_zero, List.set_cons_succ]
          refine wpAnyH_take (i := 6) (v := ?_) rfl (by kernel_rfl) (by kernel_rfl) (by kernel_rfl) (fun _ _ _ h => h) (Or.inl ⟨by rfl, ?_⟩) (by assumption) ?_
          rotate_left
          · (intro w hSw; (try dsimp only at hSw); go_simp; try with_reducible rfl)
          try simp only [Act.put, List.setIfInBounds_toArray, List.set_cons_zero, List.set_cons_succ]
          refine wpAnyH_take (i := 7) (v := ?_) rfl (by kernel_rfl) (by kernel_rfl) (by kernel_rfl) (fun _ _ _ h => h) (Or.inl ⟨by rfl, ?_⟩) (by assumption) ?_
          rotate_left
          · (intro w hSw; (try dsimp only at hSw); go_simp; try with_reducible rfl)
          try simp only [Act.put, List.setIfInBounds_toArray, List.set_cons_zero, List.set_cons_succ]
          refine wpAnyH_done (by kernel_rfl) ?_ _
          have hne : yg ≠ xg := by omega
          have hx3 : ∀ j (h : j < a5.length), w3.cell? ⟨xg, j, none⟩ = some (.string a5[j]) ∧ w3.frozen? ⟨xg, j, none⟩ = false := fun j h => ⟨bel_cell yb xl (HX.out j h).1, bel_froz yb xl (HX.out j h).2⟩
          have SX := Lib.hid (sortS_ok xg xc a5 w3 (by have := yb.size; omega) hna hx3)
          have HB3 := Lib.hid (HB1.out.trans (hHeld3.2.2.mono HB1.out.size))
          have hz3 : w.heap.size + 1 < w3.heap.size := by have := hHeld3.2.2.size; omega
          have hxg : w.heap.size + 1 < xg := by have : w1.heap.size ≤ xg := xge; omega
          have hyg : w.heap.size + 1 < yg := by have := hHeld2.2.2.size; omega
          clear hHeld hHeld2 hHeld3 hx3 p4 q4 hl' h2' h3' xb yb HX HDA HDB HW1 HW2 CA CB
          go_wp2_with fail
          refine SX.out.mono ?_
          rintro e w4 ⟨rfl, g4, x4⟩
          have hy4 : ∀ j (h : j < b5.length), w4.cell? ⟨yg, j, none⟩ = some (.string b5[j]) ∧ w4.frozen? ⟨yg, j, none⟩ = false := fun j h =>
            ⟨(World.cell?_of_block (g4.block yg yl (by simpa using hne))).trans (HY.out j h).1, (World.frozen?_of_block (g4.block yg yl (by simpa using hne))).trans (HY.out j h).2⟩
          have SY := Lib.hid (sortS_ok yg yc b5 w4 (by have := g4.size; omega) hnb hy4)
          have hz4 : w3.heap.size ≤ w4.heap.size := g4.size
          have HX4 := Lib.hid x4
          have HG4 := Lib.hid g4
          clear x4 hy4 HY g4
          go_wp2_with fail
          refine SY.out.mono ?_
          rintro e w5 ⟨rfl, g5, y5⟩
          have HX5 : Hid (∀ j (h : j < (sortB a5).length), w5.cell? ⟨xg, j, none⟩ = some (.string (sortB a5)[j])) := Lib.hid (fun j h => (World.cell?_of_block (g5.block xg (by omega) (by simpa using Ne.symm hne))).trans (HX4.out j h))
          have HY5 := Lib.hid y5
          have HG5 := Lib.hid g5
          clear y5 g5 HX4
          have EQ := Lib.hid (Try.slices_Equal_string xg 0 a5.length xc yg 0 b5.length yc (sortB a5) (sortB b5) w5 (by rw [sortB_len]; exact Nat.le_refl _) (by rw [sortB_len]; exact Nat.le_refl _) (by omega) (by omega) (fun j h => by rw [Nat.zero_add, HX5.out j h]; simp [h]) (fun j h => by rw [Nat.zero_add, HY5.out j h]; simp [h]))
          rw [List.take_of_length_le (by rw [sortB_len]; exact Nat.le_refl _), List.take_of_length_le (by rw [sortB_len]; exact Nat.le_refl _)] at EQ
          generalize decide (sortB a5 = sortB b5) = r' at *
          go_wp2_with fail
          refine EQ.out.mono ?_
          rintro e w6 ⟨rfl, q, rfl⟩
          go_wp2
          refine HR.out _ _ ⟨by rw [HE'.out]; rfl, ?_⟩
          exact bel_drewN ((HB3.out.grown HG4.out HB3.out.size (fun k e => by cases e; omega)).grown HG5.out (by have := HB3.out.size; omega) (fun k e => by cases e; omega)) q
        · have HE' : Hid (r = false) := by rw [HE.out, decide_eq_false hl]; exact Lib.hid (by simp)
          obtain ⟨a0, ga, oa, ca, rfl, hca⟩ := hda
          obtain ⟨b0, gb, ob, cb, rfl, hcb⟩ := hdb
          have hl' : ((a5.length : Int) != (b5.length : Int)) = true := by simp; omega
          clear h2 h3 hs hl hca hcb a0 b0
          have hbk1 := (Below.heap_alloc (w.alloc (.cells #[.string a1, .int .i64 a2, .int .i64 a3, .int .i64 a4, .slice (some ⟨ga, oa, none⟩) a5.length ca] 46)) (.cells #[.string b1, .int .i64 b2, .int .i64 b3, .int .i64 b4, .slice (some ⟨gb, ob, none⟩) b5.length cb] 46) w.heap.size (by simp)).trans (blk_new w (.cells #[.string a1, .int .i64 a2, .int .i64 a3, .int .i64 a4, .slice (some ⟨ga, oa, none⟩) a5.length ca] 46))
          have hbk2 := blk_new (w.alloc (.cells #[.string a1, .int .i64 a2, .int .i64 a3, .int .i64 a4, .slice (some ⟨ga, oa, none⟩) a5.length ca] 46)) (.cells #[.string b1, .int .i64 b2, .int .i64 b3, .int .i64 b4, .slice (some ⟨gb, ob, none⟩) b5.length cb] 46)
          rw [World.size_alloc] at hbk2
          have HK1 := Lib.hid hbk1
          have HK2 := Lib.hid hbk2
          clear hbk1 hbk2
          go_enter Try.func30, Try.ntmps30
          go_wp2_with fail
          refine (S _).out.mono ?_
          rintro e w1 ⟨rfl, hb1⟩
          have hk1 := bel_blk hb1 (by simp; omega) HK1.out
          have hk2 := bel_blk hb1 (by simp) HK2.out
          have p4 := blk_cell hk1 4
          have q4 := blk_cell hk2 4
          clear hk1 hk2
          go_wp2
          exact HR.out _ _ ⟨by rw [HE'.out]; rfl, h0b.trans (hb1.mono h0b.size)⟩
    · have h2' : (a2 != b2) = false := by simpa using h2
      have h3' : (a3 != b3) = true := by simpa using h3
      have HE' : Hid (r = false) := by rw [HE.out, decide_eq_false h3]; exact Lib.hid (by simp)
      clear h2 h3
      go_enter Try.func30, Try.ntmps30
      go_wp2
      exact HR.out _ _ ⟨by rw [HE'.out]; rfl, h0b⟩
  · have h2' : (a2 != b2) = true := by simpa using h2
    have HE' : Hid (r = false) := by rw [HE.out, decide_eq_false h2]; exact Lib.hid (by simp)
    clear h2
    go_enter Try.func30, Try.ntmps30
    go_wp2
    exact HR.out _ _ ⟨by rw [HE'.out]; rfl, h0b⟩
end Go.Proofs.Ytpijbdddegbjbaa
