/- ostiarylaw22.awake returns true. No condition. -/
import Derived.Test.YtpijbdddegbjbaaGroup
import Derived.Deep.RegionHeld3
import Derived.Test.YtpijbdddegbjbaaTexts
namespace Go.Proofs.Ytpijbdddegbjbaa
open Go.RowKit Go.Proofs
theorem OwnOut.sets {W : World} {base : Nat} {v : Value} {L : List SV} (h : OwnOut W base v L) : SetsAt W v (L.map (·.1)) := by
  by_cases hne : L = []
  · subst hne
    rcases h.1.2 with ⟨rfl, _⟩ | ⟨g, cap, cur, rfl, _⟩
    · exact ⟨none, 0, fun _ => .slice none 0 0, rfl, fun i hi => by simp at hi⟩
    · exact ⟨_, cap, fun _ => .slice none 0 0, rfl, fun i hi => by simp at hi⟩
  · obtain ⟨g, cap, rfl⟩ := h.head hne
    refine ⟨some ⟨g, 0, none⟩, cap, fun i => if hi : i < L.length then L[i].2 else .slice none 0 0, by rw [List.length_map], fun i hi => ?_⟩
    have hi' : i < L.length := by simpa using hi
    refine ⟨g, 0, rfl, ?_⟩
    dsimp only
    rw [List.getElem_map, dif_pos hi', Nat.zero_add]
    refine ⟨(h.at i hi').1, ?_⟩
    obtain ⟨h0, hr⟩ := h.2.1 L[i] (List.getElem_mem hi')
    refine ⟨h0, ?_⟩
    rcases hr.2 with ⟨_, hl⟩ | ⟨g', cap', cur, e, _⟩
    · exact absurd (List.length_eq_zero_iff.1 hl) h0
    · rw [e] at hr ⊢
      refine ⟨g', 0, cap', rfl, fun j hj => ?_⟩
      rw [Nat.zero_add, (row_cell hr j (by omega)).1]
      simp [hj]
def nA : ByteArray := sb [1, 97, 0]
def nB : ByteArray := sb [1, 98, 0]
def nBig : ByteArray := sb [1, 65, 0]
def wakeL : List RecV := [(nA, 1, 1, 5, sb [120]), (nB, 1, 1, 7, sb [121]), (nBig, 1, 1, 3, sb [122]), (nA, 1, 1, 9, sb [120])]
def wakeS : List SetV := [(nA, 1, 1, 3, [sb [120], sb [122]]), (nB, 1, 1, 7, [sb [121]])]
theorem wake_group : groupM wakeL = wakeS := by decide +kernel
theorem lab_one (c d : UInt8) (h : c.toNat = 1) : labErr [c, d, 0] = 0 := by
  have hc : c = 1 := UInt8.toNat_inj.1 (by simpa using h)
  subst hc
  simp [labErr, fineS, Steps]
theorem wake_fine : ∀ r ∈ wakeL, r.1.size ≤ 1000000000 ∧ labErr (bl r.1) = 0 := by
  intro r hr
  simp [wakeL] at hr
  rcases hr with rfl | rfl | rfl | rfl <;> exact ⟨by decide, lab_one _ _ (by decide)⟩
theorem rec22_ok (n d : ByteArray) (t ttl : Int) (w : World) :
    Calls Try.prog 90 #[.string n, .int .i64 t, .int .i64 ttl, .string d] w fun e w' => e = .returned (.agg #[.string n, .int .i64 t, .int .i64 1, .int .i64 ttl, .string d]) ∧ Below w.heap.size w w' := by
  refine hideR fun R' HR => ?_
  go_enter Try.func90, Try.ntmps90
  go_wp2
  exact bodyPost_ret (v := .agg #[.string n, .int .i64 t, .int .i64 1, .int .i64 ttl, .string d]) (by simp [results, Try.func90, go_sem]) rfl (HR.out _ _ ⟨rfl, (Below.refl _ _).alloc (Nat.le_refl _) _⟩)
theorem aw_ok (w : World) : Calls Try.prog 91 #[] w fun e w' => e = .returned (.string nA) ∧ Below w.heap.size w w' := by
  refine hideR fun R' HR => ?_
  go_enter Try.func91, Try.ntmps91
  go_wp2
  exact HR.out _ _ ⟨rfl, Below.refl _ _⟩
theorem bw_ok (w : World) : Calls Try.prog 92 #[] w fun e w' => e = .returned (.string nB) ∧ Below w.heap.size w w' := by
  refine hideR fun R' HR => ?_
  go_enter Try.func92, Try.ntmps92
  go_wp2
  exact HR.out _ _ ⟨rfl, Below.refl _ _⟩
theorem bigw_ok (w : World) : Calls Try.prog 93 #[] w fun e w' => e = .returned (.string nBig) ∧ Below w.heap.size w w' := by
  refine hideR fun R' HR => ?_
  go_enter Try.func93, Try.ntmps93
  go_wp2
  exact HR.out _ _ ⟨rfl, Below.refl _ _⟩
theorem two_texts (W : World) (n : Nat) (hn : n = W.heap.size) : TextsAt (W.alloc (.cells #[.string (sb [120]), .string (sb [122])] 9)) (.slice (some ⟨n, 0, none⟩) 2 2) [sb [120], sb [122]] := by
  subst hn
  have hx := blk_new W (.cells #[.string (sb [120]), .string (sb [122])] 9)
  refine ⟨some ⟨W.heap.size, 0, none⟩, 2, rfl, fun i hi => ⟨_, 0, rfl, ?_⟩⟩
  have : i = 0 ∨ i = 1 := by simp at hi; omega
  rcases this with rfl | rfl
  · exact blk_cell hx 0
  · exact blk_cell hx 1
theorem wake_least : leastS wakeS = 3 := by decide +kernel
def wakeCells : Array Value := #[.string nA, .int .i64 1, .int .i64 1, .int .i64 5, .string (sb [120]), .string nB, .int .i64 1, .int .i64 1, .int .i64 7, .string (sb [121]), .string nBig, .int .i64 1, .int .i64 1, .int .i64 3, .string (sb [122]), .string nA, .int .i64 1, .int .i64 1, .int .i64 9, .string (sb [120])]
theorem wake_recs (W : World) (n : Nat) (hn : n = W.heap.size) : RecsAt (W.alloc (.cells wakeCells 43)) (.slice (some ⟨n, 0, none⟩) 4 4) wakeL := by
  subst hn
  have hx := blk_new W (.cells wakeCells 43)
  refine ⟨some ⟨W.heap.size, 0, none⟩, 4, rfl, fun i hi => ⟨_, 0, rfl, ?_⟩⟩
  have : i = 0 ∨ i = 1 ∨ i = 2 ∨ i = 3 := by simp [wakeL] at hi; omega
  rcases this with rfl | rfl | rfl | rfl
  · exact ⟨blk_cell hx 0, blk_cell hx 1, blk_cell hx 2, blk_cell hx 3, blk_cell hx 4⟩
  · exact ⟨blk_cell hx 5, blk_cell hx 6, blk_cell hx 7, blk_cell hx 8, blk_cell hx 9⟩
  · exact ⟨blk_cell hx 10, blk_cell hx 11, blk_cell hx 12, blk_cell hx 13, blk_cell hx 14⟩
  · exact ⟨blk_cell hx 15, blk_cell hx 16, blk_cell hx 17, blk_cell hx 18, blk_cell hx 19⟩
set_option maxRecDepth 100000 in
set_option maxHeartbeats 2000000 in
theorem awake22_ok (w : World) : Calls Try.prog 25 #[] w fun e w' => e = .returned (.bool true) ∧ Below w.heap.size w w' := by
  refine hideR fun R' HR => ?_
  go_enter Try.func25, Try.ntmps25
  go_wp2
  refine bodyPost_ret (v := .agg #[.string nA, .int .i64 1, .int .i64 1, .int .i64 5, .string (sb [120])]) (by simp [results, Try.f90, Try.func90, go_sem]; exact ⟨rfl, rfl⟩) rfl ?_
  go_wp2
  refine bodyPost_ret (v := .agg #[.string nB, .int .i64 1, .int .i64 1, .int .i64 7, .string (sb [121])]) (by simp [results, Try.f90, Try.func90, go_sem]; exact ⟨rfl, rfl⟩) rfl ?_
  go_wp2
  refine bodyPost_ret (v := .agg #[.string nBig, .int .i64 1, .int .i64 1, .int .i64 3, .string (sb [122])]) (by simp [results, Try.f90, Try.func90, go_sem]; exact ⟨rfl, rfl⟩) rfl ?_
  go_wp2
  refine bodyPost_ret (v := .agg #[.string nA, .int .i64 1, .int .i64 1, .int .i64 9, .string (sb [120])]) (by simp [results, Try.f90, Try.func90, go_sem]; exact ⟨rfl, rfl⟩) rfl ?_
  go_wp2_with fail
  refine (group_ok _ wakeL _ (wake_recs _ _ (by simp)) (by decide) wake_fine).mono ?_
  rintro e W ⟨v', L, rfl, hO, hL, hB⟩
  have hS := hO.sets
  rw [hL, wake_group] at hS
  obtain ⟨g, o, cap, dv, rfl, hgl, hr⟩ := hS.open (by simp [wakeS])
  have HL := fun (W' : World) (hb : Below W.heap.size W W') => Lib.hid (least_ok _ wakeS W' (hS.below hb) (by decide))
  have HT := fun (u : Value) (W' : World) (hb : Below W.heap.size W W') (hu : TextsAt W' u [sb [120], sb [122]]) => Lib.hid (sameTexts_ok (dv 0) u [sb [120], sb [122]] [sb [120], sb [122]] W' ((hr 0 (by decide)).2.texts.below hb) hu (by decide) (by decide))
  have HA := fun W' => Lib.hid (aw_ok W')
  rw [wake_least] at HL
  obtain ⟨⟨d0, _, _, d3, d4⟩, ht0⟩ := hr 0 (by decide)
  obtain ⟨⟨_, _, _, e3, _⟩, _⟩ := hr 1 (by decide)
  obtain ⟨_, tg, tq, tc, htd, _⟩ := ht0
  rw [htd] at d4 HT
  have hBB : Hid (Below w.heap.size w W) := Lib.hid ((((((Below.refl w.heap.size w).alloc (Nat.le_refl _) _).alloc (by simp) _).alloc (by simp <;> omega) _).alloc (by simp <;> omega) _).alloc (by simp <;> omega) _ |>.trans (hB.mono (by simp <;> omega)))
  simp only [Nat.zero_mul, Nat.one_mul, Nat.add_zero, show wakeS[0].1 = nA from rfl, show wakeS[0].2.2.2.1 = 3 from rfl, show wakeS[1].2.2.2.1 = 7 from rfl, show wakeS[0].2.2.2.2.length = 2 from rfl] at d0 d3 d4 e3 HT
  simp only [show wakeS.length = 2 from rfl] at HL ⊢
  clear hO hL hB hS hr htd
  have hstr : (nA.toList == nA.toList) = true := by simp
  rw [show decide True = true from rfl] at HT
  go_upto_region 2 with fail
  have HK : ∀ w', Below W.heap.size W w' → (w'.cell? ⟨g, o, none⟩ = some (.string nA) ∧ w'.cell? ⟨g, o + 3, none⟩ = some (.int .i64 3) ∧ w'.cell? ⟨g, o + 4, none⟩ = some (.slice (some ⟨tg, tq, none⟩) 2 tc) ∧ w'.cell? ⟨g, o + 5 + 3, none⟩ = some (.int .i64 7)) := fun w' hb => ⟨bel_cell hb hgl d0, bel_cell hb hgl d3, bel_cell hb hgl d4, bel_cell hb hgl e3⟩
  clear d0 d3 d4 e3
  go_region_held3 (fun w' => w'.cell? ⟨g, o, none⟩ = some (.string nA) ∧ w'.cell? ⟨g, o + 3, none⟩ = some (.int .i64 3) ∧ w'.cell? ⟨g, o + 4, none⟩ = some (.slice (some ⟨tg, tq, none⟩) 2 tc) ∧ w'.cell? ⟨g, o + 5 + 3, none⟩ = some (.int .i64 7)) (first | exact HK _ (Below.refl _ _).drew | exact HK _ hb1 | exact HK _ (hb1.alloc hb1.size _) | exact HK _ hb2 | exact HK _ hb3)
    (first
      | (go_at_call 91; refine (HA _).out.mono ?_; rintro e w1 ⟨rfl, xb1⟩; have hb1 : Below W.heap.size W w1 := (Below.refl _ _).drew.trans xb1)
      | (go_at_call 94; refine (HT _ _ (hb1.alloc hb1.size _) (two_texts _ _ rfl)).out.mono ?_; rintro e w2 ⟨rfl, xb2⟩; have hb2 : Below W.heap.size W w2 := (hb1.alloc hb1.size _).trans (xb2.mono (by have := hb1.size; simp; omega)))
      | (go_at_call 31; refine (HL _ hb2).out.mono ?_; rintro e w3 ⟨rfl, xb3⟩; have hb3 : Below W.heap.size W w3 := hb2.trans (xb3.mono hb2.size)))
  go_wp2_with fail
  exact HR.out _ _ ⟨rfl, hBB.out.trans (hb3.mono hBB.out.size)⟩
end Go.Proofs.Ytpijbdddegbjbaa
