/- Contracts of package table, third part: goes, Touch. Condition: the table lies as TableAt says, its clients are ints. -/
import Derived.Test.YtpijbdddegbjbaaTab2
namespace Go.Proofs.Ytpijbdddegbjbaa
open Go.RowKit Go.Proofs Go.Sort
theorem put_blk {α : Type} [Inhabited α] (enc : α → Value) (w : World) (blk off q : Nat) (d : Array α) (k : Nat) (h : k ≠ blk) : (putRow enc (Sort.ahead w q) blk off d).heap[k]? = w.heap[k]? := by
  show (w.heap.modify blk _)[k]? = _
  rw [Array.getElem?_modify, if_neg (fun e => h e.symm)]
theorem put_grown {α : Type} [Inhabited α] (enc : α → Value) (w : World) (blk off q : Nat) (d : Array α) : w.grownBy (putRow enc (Sort.ahead w q) blk off d) (some blk) :=
  ⟨rfl, rfl, rfl, by rw [size_putRow]; exact Nat.le_refl _, fun k _ hk => put_blk enc w blk off q d k (fun e => hk (by rw [e]))⟩
theorem TableAt.of_blk {w w' : World} {tb mb : Nat} {most : Int} {l : Tab} (h : TableAt w tb mb most l) (h1 : w'.heap[tb]? = w.heap[tb]?) (h2 : w'.heap[mb]? = w.heap[mb]?) : TableAt w' tb mb most l :=
  ⟨h1.trans h.1, h.2.1.of_blk h2, h.2.2⟩
/-- Who goes. -/
def goesL (l : Tab) : List Int := (sortedKeys l).filter fun x => (clOf l x).2
def goesF (l : Tab) : Option Int := match goesL l with
  | [] => none
  | x :: xs => some (minF (cmpCl l) x xs)
theorem goesL_len (l : Tab) : (goesL l).length ≤ l.length := by
  unfold goesL
  refine Nat.le_trans (List.length_filter_le _ _) ?_
  simp [sortedKeys]
theorem intCell : OneCell (Value.int .i64) := fun _ => rfl
theorem delGoes_ok (bx tb mb : Nat) (most : Int) (l : Tab) (xs : List Int) (w : World) (hx : w.cell? ⟨bx, 0, none⟩ = some (.pointer (some ⟨tb, 0, none⟩))) (h : TableAt w tb mb most l)
    (g cap : Nat) (cur : Array Value) (hg : w.heap[g]? = some (.cells cur 3 (0, 0))) (hcap : xs.length ≤ cap) (hm : cap ≤ maxLen) (hcur : cur.toList.take xs.length = xs.map (Value.int .i64)) (h1 : g ≠ bx) (h2 : g ≠ tb) (h3 : g ≠ mb) :
    Calls Try.prog 151 #[.slice (some ⟨g, 0, none⟩) xs.length cap, .func (.func 152) #[] #[.pointer (some ⟨bx, 0, none⟩)]] w fun e w' => e = .returned (.slice (some ⟨g, 0, none⟩) (xs.filter fun x => (clOf l x).2).length cap) ∧ w.grownBy w' (some g) ∧
      (∀ k, k ≠ g → w'.heap[k]? = w.heap[k]?) ∧ w'.heap.size = w.heap.size ∧ ∀ j, j < (xs.filter fun x => (clOf l x).2).length → w'.cell? ⟨g, 0 + j, none⟩ = some (.int .i64 ((xs.filter fun x => (clOf l x).2).getD j 0)) := by
  have hbl := blk_lt hg
  have hxl := cell_lt hx
  have htb := blk_lt h.1
  have hmb := h.2.1.lt
  have hH : Holds (Value.int .i64) w g 0 xs.toArray := by
    intro j hj
    have hj' : j < xs.length := by simpa using hj
    have e := congrArg (fun m => m[j]?) hcur
    simp only [List.getElem?_map, List.getElem?_take, hj', if_true, Array.getElem?_toList] at e
    refine ⟨?_, ?_⟩
    · rw [blk_cell hg, Nat.zero_add, e]
      simp [hj']
    · exact blk_free hg _ (Or.inr rfl)
  have hp : PredAt Try.prog 152 #[.pointer (some ⟨bx, 0, none⟩)] (Value.int .i64) (fun x => !(clOf l x).2) w := by
    intro W x hW
    refine (goes1_ok bx tb mb most l x W ((hW.cell hxl).trans hx) (h.below hW htb hmb)).mono ?_
    rintro e w' ⟨rfl, rfl⟩
    exact ⟨rfl, 0, rfl⟩
  have hpo : PredOver Try.prog 152 #[.pointer (some ⟨bx, 0, none⟩)] (Value.int .i64) (fun x => !(clOf l x).2) g 0 xs.toArray.size w := by
    intro n os dk x hs
    have hold : ∀ k, k ≠ g → k < w.heap.size → (sortWorld (Value.int .i64) w g 0 n dk os).heap[k]? = w.heap[k]? := fun k hk hk2 => by
      unfold sortWorld
      rw [Sort.heap_grow_old _ _ (by rw [Go.Sort.size_putRow]; exact hk2), put_blk _ _ _ _ _ _ _ hk]
    refine (goes1_ok bx tb mb most l x _ (by rw [World.cell?_of_block (hold bx (Ne.symm h1) hxl)]; exact hx) (h.of_blk (hold _ (Ne.symm h2) htb) (hold _ (Ne.symm h3) hmb))).mono ?_
    rintro e w' ⟨rfl, rfl⟩
    exact ⟨rfl, 0, rfl⟩
  have e1 : (fun x => !!(clOf l x).2) = fun x => (clOf l x).2 := by funext x; simp
  have := AnyE.slices_DeleteFunc Try.delI (Value.int .i64) intCell (fun x => !(clOf l x).2) 152 #[.pointer (some ⟨bx, 0, none⟩)] (enters_of Try.func152 (by kernel_rfl) rfl) 0 (by intro w; kernel_rfl) g 0 cap xs.toArray w hp hpo hH (by unfold maxLen at hm; simp; omega) (by simpa using hcap)
  refine this.mono ?_
  rintro e w' ⟨rfl, q, rfl⟩
  simp only [List.size_toArray, e1]
  refine ⟨trivial, put_grown _ _ _ _ _ _, fun k hk => put_blk _ _ _ _ _ _ _ hk, by rw [Go.Sort.size_putRow]; rfl, fun j hj => ?_⟩
  have hfl : (xs.filter fun x => (clOf l x).2).length ≤ xs.length := List.length_filter_le _ _
  have hh := Go.Sort.holds_putRow (Value.int .i64) (Go.Sort.ahead w q) g 0 xs.toArray ((xs.filter fun x => (clOf l x).2) ++ List.replicate (xs.length - (xs.filter fun x => (clOf l x).2).length) 0).toArray (Go.Sort.holds_ahead _ _ _ _ _ _ hH) (by simp; omega) j (by simp; omega)
  rw [hh.1]
  simp [List.getElem?_append_left hj, hj]
set_option maxRecDepth 100000 in
set_option maxHeartbeats 2000000 in
theorem goes_ok (tb mb : Nat) (most : Int) (l : Tab) (w : World) (h : TableAt w tb mb most l) (hm : most ≠ 0) (hw : IntsWf l) (hn : l.length ≤ 1000000) (hne : l ≠ []) :
    Calls Try.prog 108 #[.pointer (some ⟨tb, 0, none⟩)] w fun e w' => e = .returned (.tuple #[.int .i64 ((goesF l).getD 0), .bool (goesF l).isSome]) ∧ Below w.heap.size w w' := by
  have htb := blk_lt h.1
  have hmb := h.2.1.lt
  refine hideR fun R' HR => ?_
  go_enter Try.func108, Try.ntmps108
  go_wp2_with fail
  have hb0 : Below w.heap.size w (w.alloc (.cells #[.pointer (some ⟨tb, 0, none⟩)] 57)) := (Below.refl _ _).alloc (Nat.le_refl _) _
  have h1 : TableAt (w.alloc (.cells #[.pointer (some ⟨tb, 0, none⟩)] 57)) tb mb most l := h.below hb0 htb hmb
  have hbx := blk_cell (blk_new w (.cells #[.pointer (some ⟨tb, 0, none⟩)] 57)) 0
  generalize hW : w.alloc (.cells #[.pointer (some ⟨tb, 0, none⟩)] 57) = W at hb0 h1 hbx ⊢
  have hsz : W.heap.size = w.heap.size + 1 := by rw [← hW]; simp
  have HW := Lib.hid hW
  have HSZ := Lib.hid hsz
  clear hW hsz
  refine (all_ok tb mb most l W h1 hm hw hn).mono ?_
  rintro e w1 ⟨v, rfl, hrow, hnil, hb1⟩
  obtain ⟨hl1, hv⟩ := hrow
  rcases hv with ⟨hv, hl0⟩ | ⟨g, cap, cur, rfl, hg1, hg2, hg3, hg4, hg5, hg6⟩
  · exact absurd (hnil.1 hv) hne
  go_wp2_with fail
  have hlen : (sortedKeys l).length = l.length := by simp [sortedKeys]
  have hd := delGoes_ok w.heap.size tb mb most l (sortedKeys l) w1 ((hb1.cell (by show w.heap.size < W.heap.size; rw [HSZ.out]; omega)).trans hbx) (h1.below hb1 (by rw [HSZ.out]; omega) (by rw [HSZ.out]; omega)) g cap cur hg2 (by omega) hg4 (by rw [hlen, ← hg6, Nat.mul_one]) (by have := HSZ.out; omega) (by have := HSZ.out; omega) (by have := HSZ.out; omega)
  rw [hlen] at hd
  refine hd.mono ?_
  rintro e w2 ⟨rfl, hgr, hbk, hsz2, hcl⟩
  have hbel2 : Below w.heap.size w w2 := by
    have hbel1 := hb0.trans (hb1.mono hb0.size)
    refine ⟨hgr.os.trans hbel1.os, hgr.tape.trans hbel1.tape, hgr.output.trans hbel1.output, Nat.le_trans hbel1.size hgr.size, fun k hk => (hbk k ?_).trans (hbel1.block k hk)⟩
    have := HSZ.out; omega
  have h2 : TableAt w2 tb mb most l := h.below hbel2 htb hmb
  have hx2 : w2.cell? ⟨w.heap.size, 0, none⟩ = some (.pointer (some ⟨tb, 0, none⟩)) := by
    rw [World.cell?_of_block (hbk w.heap.size (by have := HSZ.out; omega))]
    exact (hb1.cell (by show w.heap.size < W.heap.size; rw [HSZ.out]; omega)).trans hbx
  have hgl : g < w2.heap.size := by rw [hsz2]; exact blk_lt hg2
  have HC := Lib.hid hcl
  have HB2 := Lib.hid hbel2
  have HX2 := Lib.hid hx2
  have HT2 := Lib.hid h2
  have HB0 := Lib.hid hb0
  clear hcl hbel2 hx2 h2 hgr hbk hsz2 hd hg2 hg6 hg5 hl1 hbx hb0 hb1 h1 hnil
  have e0 : (sortedKeys l).filter (fun x => (clOf l x).2) = goesL l := rfl
  rw [e0] at HC ⊢
  clear e0
  have eF : goesF l = match goesL l with
    | [] => none
    | x :: xs => some (minF (cmpCl l) x xs) := rfl
  cases hL : goesL l with
  | nil =>
    rw [hL] at eF
    rw [hL] at HC
    go_wp2
    exact HR.out _ _ ⟨by rw [eF]; rfl, HB2.out⟩
  | cons x xs =>
    rw [hL] at eF
    rw [hL] at HC
    have hle := goesL_len l
    rw [hL] at hle
    simp only [List.length_cons] at hle
    go_wp2_with fail
    have hmin := minFunc_ok 154 #[.pointer (some ⟨w.heap.size, 0, none⟩)] (cmpCl l) (enters_of Try.func154 (by kernel_rfl) rfl) g 0 cap x xs w2 (by omega) hgl (fun j hj => HC.out j hj)
      (fun W' y z hW' => goes2_ok w.heap.size tb mb most l y z W' ((hW'.cell (by show w.heap.size < w2.heap.size; have := HSZ.out; have := HB0.out.size; omega)).trans HX2.out) (HT2.out.below hW' (by have := HB2.out.size; omega) (by have := HB2.out.size; omega)))
    refine hmin.mono ?_
    rintro e w3 ⟨rfl, hb3⟩
    go_wp2
    exact HR.out _ _ ⟨by rw [eF]; rfl, HB2.out.trans (hb3.mono HB2.out.size)⟩
/-- What Touch does. -/
def touchM (most : Int) (l : Tab) (k now : Int) : (Int × Bool × Int) × Tab :=
  if now < 0 ∨ 1099511627776 < now then ((0, false, 2), l) else
  match mget l k with
  | some c => ((0, false, 0), mput l k (max c.1 now, c.2))
  | none => if (l.length : Int) < most then ((0, false, 0), mput l k (now, false)) else
    match goesF l with
    | none => ((0, false, 8), l)
    | some o => ((o, true, 0), mput (mdel l o) k (now, false))
end Go.Proofs.Ytpijbdddegbjbaa
