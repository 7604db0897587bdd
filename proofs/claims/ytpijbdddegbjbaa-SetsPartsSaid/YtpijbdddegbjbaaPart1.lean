/- ostiarylaw22.has, sets.Recs. Condition: bounds on sizes. -/
import Derived.Test.YtpijbdddegbjbaaPartP
import Derived.Test.YtpijbdddegbjbaaTurnM
namespace Go.Proofs.Ytpijbdddegbjbaa
open Go.RowKit Go.Proofs Go.Sort
set_option maxRecDepth 100000 in
set_option maxHeartbeats 1000000 in
theorem hasT_ok (v : Value) (l : List ByteArray) (d : ByteArray) (w : World) (h : TextsAt w v l) (hn : l.length ≤ 1000000000) :
    Calls Try.prog 33 #[v, .string d] w fun e w' => e = .returned (.bool (Lib.containsS l d)) ∧ Below w.heap.size w w' := by
  refine hideR fun R' HR => ?_
  have HA := Lib.hid h
  obtain ⟨ao, ca, rfl⟩ := h.len
  clear h
  go_enter Try.func33, Try.ntmps33
  go_wp2
  go_loopw [5] (fun i wr => ∃ k : Nat, k ≤ l.length ∧ i = .int .i64 k ∧ Hid (d ∉ l.take k) ∧ Hid (Below w.heap.size w wr)) (fun i _ => l.length - (intOf i).toNat)
  case atStart => exact ⟨0, Nat.zero_le _, rfl, Lib.hid (by simp), Lib.hid (Below.refl _ _)⟩
  case round =>
    obtain ⟨k, hk, rfl, HT, HW⟩ := hrel
    by_cases hlt : k < l.length
    · obtain ⟨b, o, ca', hv, hgl, hca⟩ := HA.out.open (by rintro rfl; simp at hlt)
      simp only [Value.slice.injEq, true_and] at hv
      obtain ⟨rfl, rfl⟩ := hv
      have c1 := bel_cell HW.out hgl (hca k hlt)
      have hk1 : (k : Int) < (l.length : Int) := by omega
      by_cases heq : l[k] = d
      · have heq' : (l[k].toList == d.toList) = true := by simp [heq]
        have HE : Hid (Lib.containsS l d = true) := Lib.hid ((Lib.containsS_iff _ _).2 (heq ▸ List.getElem_mem hlt))
        clear heq hca
        go_wp2
        exact HR.out _ _ ⟨by rw [HE.out]; rfl, HW.out⟩
      · have heq' : (l[k].toList == d.toList) = false := by rw [str_eq]; exact decide_eq_false heq
        have HT' : Hid (d ∉ l.take (k + 1)) := Lib.hid (by
          rw [List.take_succ_eq_append_getElem hlt, List.mem_append]
          rintro (h | h)
          · exact HT.out h
          · simp at h; exact heq h.symm)
        clear heq hca
        go_wp2
        go_roundw
        case rel => exact ⟨k + 1, by omega, by go_num, HT', HW⟩
        case measure => simp [intOf]; omega
    · have hkl : k = l.length := by omega
      subst hkl
      have HE : Hid (Lib.containsS l d = false) := Lib.hid (by
        rw [Bool.eq_false_iff]
        intro e
        rw [Lib.containsS_iff] at e
        have := HT.out
        rw [List.take_length] at this
        exact this e)
      have hlt' : ¬ ((l.length : Int) < (l.length : Int)) := by omega
      go_wp2
      exact HR.out _ _ ⟨by rw [HE.out], HW.out⟩
theorem recRow2_of {W : World} {base k : Nat} {v : Value} {xs : List Value} {l : List RecV} (h : W.ownsRow base 43 5 v k xs) (hk : k = l.length) (hx : xs = l.flatMap recCells) (hne : l ≠ []) : ∃ g cap, v = .slice (some ⟨g, 0, none⟩) l.length cap ∧ base ≤ g ∧ RecRow W base g cap l := by
  subst hk hx
  obtain ⟨h1, h2⟩ := h
  rcases h2 with ⟨_, h2⟩ | ⟨g, cap, cur, rfl, hg, h2⟩
  · exact absurd (List.length_eq_zero_iff.1 h2) hne
  · exact ⟨g, cap, rfl, hg, h1, .inr ⟨g, cap, cur, rfl, hg, h2⟩⟩
theorem one_rec (W : World) (r : RecV) : ∀ j u, (recCells r)[j]? = some u → (W.alloc (.cells (recCells r).toArray 43)).cell? ((⟨W.heap.size, 0, none⟩ : Addr).add j) = some u := by
  have h := blk_new W (.cells (recCells r).toArray 43)
  have := World.news_of_block h
  simpa using this
theorem rec_one (r : RecV) : ∀ u ∈ recCells r, u.oneCell' = true := by
  intro u hr
  simp [recCells] at hr
  rcases hr with rfl | rfl | rfl | rfl | rfl <;> rfl
theorem recs_snoc (s : SetV) (k : Nat) (h : k < s.2.2.2.2.length) : ((recsOf s).take (k + 1)).flatMap recCells = ((recsOf s).take k).flatMap recCells ++ recCells (s.1, s.2.1, s.2.2.1, s.2.2.2.1, s.2.2.2.2[k]) := by
  rw [List.take_succ_eq_append_getElem (by rw [recsOf_len]; exact h), List.flatMap_append]
  simp [recsOf]
set_option maxRecDepth 100000 in
set_option maxHeartbeats 1000000 in
theorem recs_ok (s : SetV) (dv : Value) (w : World) (h : StrsAt w dv s.2.2.2.2) (hn : s.2.2.2.2.length ≤ 1000000) :
    Calls Try.prog 34 #[setV s dv] w fun e w' => ∃ v', e = .returned v' ∧ RecsAt w' v' (recsOf s) ∧ Below w.heap.size w w' := by
  obtain ⟨i0, gi, gz0, gz1, gz2⟩ := info_parts infoRec
  have HSN := Lib.hid (recs_snoc s)
  have HF : Hid ((recsOf s).take s.2.2.2.2.length = recsOf s) := Lib.hid (List.take_of_length_le (by rw [recsOf_len]; omega))
  have HRL := Lib.hid (recsOf_len s)
  obtain ⟨n, ty, c, ttl, data⟩ := s
  dsimp only at *
  obtain ⟨h0, g, o, cap, rfl, hc⟩ := h
  have hlp : 0 < data.length := List.length_pos_iff.2 h0
  have hgl := cell_lt (hc 0 hlp)
  generalize recsOf (n, ty, c, ttl, data) = R at *
  have HC := Lib.hid hc
  clear hc h0
  simp only [setV]
  refine hideR fun R' HR => ?_
  go_enter Try.func34, Try.ntmps34
  have hx0 := blk_new w (.cells #[.string n, .int .i64 ty, .int .i64 c, .int .i64 ttl, .slice (some ⟨g, o, none⟩) data.length cap] 46)
  have x4 := blk_cell hx0 4
  go_wp2_with fail
  go_loopw [3, 9] (fun ov i wr => ∃ k : Nat, k ≤ data.length ∧ i = .int .i64 k ∧ wr.ownsRow (w.heap.size + 1) 43 5 ov k ((R.take k).flatMap recCells) ∧ Hid (wr.heap[w.heap.size]? = some (.cells #[.string n, .int .i64 ty, .int .i64 c, .int .i64 ttl, .slice (some ⟨g, o, none⟩) data.length cap] 46 (0, 0))) ∧ Hid (Below w.heap.size w wr) ∧ w.heap.size + 1 ≤ wr.heap.size) (fun _ i _ => data.length - (intOf i).toNat)
  case atStart => exact ⟨0, Nat.zero_le _, rfl, ⟨by simp, .inl ⟨rfl, rfl⟩⟩, Lib.hid hx0, Lib.hid ((Below.refl _ _).alloc (Nat.le_refl _) _), by simp⟩
  case round =>
    obtain ⟨k, hk, rfl, hO, HX, HW, hsz⟩ := hrel
    obtain ⟨ao, ov, hov⟩ : ∃ ao c, u3 = .slice ao k c := by
      rcases hO.2 with ⟨h, h0⟩ | ⟨g, c, _, h, _⟩
      · exact ⟨none, 0, by rw [h0]; exact h⟩
      · exact ⟨_, _, h⟩
    subst hov
    by_cases hlt : k < data.length
    · have hk1 : (k : Int) < (data.length : Int) := by omega
      have hk0 : (0 : Int) ≤ (k : Int) := by omega
      have y0 := blk_cell HX.out 0
      have y1 := blk_cell HX.out 1
      have y2 := blk_cell HX.out 2
      have y3 := blk_cell HX.out 3
      have c1 := bel_cell HW.out hgl (HC.out k hlt)
      go_wp2_with (first
        | (at_builtin; refine wpList_append_own _ rfl _ _ 23 rfl (w.heap.size + 1) 43 i0 (.agg #[.string (sb []), .int .i64 0, .int .i64 0, .int .i64 0, .string (sb [])]) 5 56 Try.underlying23 gi gz0 gz1 gz2 rfl (by decide) _ k _ rfl (hO.alloc _) ⟨wr.heap.size, 0, none⟩ 1 1 (recCells (n, ty, c, ttl, data[k])) rfl rfl (one_rec _ _) (rec_one _) (by unfold maxLen; omega) (by omega) (by simp; omega) ?_; intro v8 w8 hown8 hg8 _)
        | fail)
      go_roundw
      case rel =>
        have hgr : wr.grownBy w8 (Value.slice ao k ov).ownBlock := grown_trans (World.grownBy_alloc _ _ _) hg8
        refine ⟨k + 1, by omega, by go_num, ?_, ?_, ?_, ?_⟩
        · rw [HSN.out k hlt]; exact hown8
        · exact Lib.hid ((hgr.block _ (by omega) (fun e => by have := (own_lt hO _ e.symm).1; omega)).trans HX.out)
        · exact Lib.hid (HW.out.grown hgr HW.out.size (fun k' e => by have := (own_lt hO _ e).1; omega))
        · have := hgr.size; omega
      case measure => simp [intOf]; omega
    · have hkl : k = data.length := by omega
      subst hkl
      have hlt' : ¬ ((data.length : Int) < (data.length : Int)) := by omega
      have hne : R ≠ [] := by rintro rfl; have := HRL.out; simp at this; omega
      rw [HF.out] at hO
      obtain ⟨mg, mc, hv, _, hR⟩ := recRow2_of hO HRL.out.symm rfl hne
      have hre := hR.recs
      rw [HRL.out] at hv hre
      rw [hv]
      go_wp2_with fail
      exact HR.out _ _ ⟨_, rfl, hre, HW.out⟩
end Go.Proofs.Ytpijbdddegbjbaa
