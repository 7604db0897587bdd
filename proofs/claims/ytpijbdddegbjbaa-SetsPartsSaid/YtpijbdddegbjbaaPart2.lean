/- ostiarykit.SameSet, SameSets at equal sets. Condition: bounds on sizes. -/
import Derived.Test.YtpijbdddegbjbaaPart1
namespace Go.Proofs.Ytpijbdddegbjbaa
open Go.RowKit Go.Proofs Go.Sort
set_option maxRecDepth 100000 in
set_option maxHeartbeats 1000000 in
theorem sameSetEq_ok (s : SetV) (da db : Value) (w : World) (ha : StrsAt w da s.2.2.2.2) (hb : StrsAt w db s.2.2.2.2) (hn : s.2.2.2.2.length ≤ 1000000000) :
    Calls Try.prog 106 #[setV s da, setV s db] w fun e w' => e = .returned (.bool true) ∧ Below w.heap.size w w' := by
  obtain ⟨n, ty, c, ttl, data⟩ := s
  dsimp only at *
  simp only [setV]
  refine hideR fun R' HR => ?_
  have hB : Below w.heap.size w ((w.alloc (.cells #[.string n, .int .i64 ty, .int .i64 c, .int .i64 ttl, da] 46)).alloc (.cells #[.string n, .int .i64 ty, .int .i64 c, .int .i64 ttl, db] 46)) := ((Below.refl _ _).alloc (Nat.le_refl _) _).alloc (by simp) _
  have HT := Lib.hid (sameTexts_ok da db data data _ (ha.texts.below hB) (hb.texts.below hB) hn hn)
  rw [show decide (data = data) = true from decide_eq_true rfl] at HT
  obtain ⟨_, g, o, cap, rfl, _⟩ := ha
  obtain ⟨_, g', o', cap', rfl, _⟩ := hb
  go_enter Try.func106, Try.ntmps106
  go_wp2_with fail
  refine HT.out.mono ?_
  rintro e w1 ⟨rfl, b1⟩
  go_wp2_with fail
  exact HR.out _ _ ⟨rfl, hB.trans (b1.mono hB.size)⟩
set_option maxRecDepth 100000 in
set_option maxHeartbeats 1000000 in
theorem sameSets_one (s : SetV) (v u : Value) (w : World) (hv : SetsAt w v [s]) (hu : SetsAt w u [s]) (hn : s.2.2.2.2.length ≤ 1000000000) :
    Calls Try.prog 35 #[v, u] w fun e w' => e = .returned (.bool true) ∧ Below w.heap.size w w' := by
  obtain ⟨b, o, cap, dv, rfl, hbl, hr⟩ := hv.open (by simp)
  obtain ⟨b', o', cap', du, rfl, hbl', hr'⟩ := hu.open (by simp)
  obtain ⟨⟨x0, x1, x2, x3, x4⟩, hxs⟩ := hr 0 (by simp)
  obtain ⟨⟨y0, y1, y2, y3, y4⟩, hys⟩ := hr' 0 (by simp)
  simp only [Nat.zero_mul, Nat.add_zero, List.getElem_cons_zero, List.length_singleton] at *
  have SM := fun (W' : World) (hb : Below w.heap.size w W') => Lib.hid (sameSetEq_ok s (dv 0) (du 0) W' (hxs.below hb) (hys.below hb) hn)
  have SMH := Lib.hid SM
  have HK := fun (w' : World) (hb : Below w.heap.size w w') => (⟨bel_cell hb hbl x0, bel_cell hb hbl x1, bel_cell hb hbl x2, bel_cell hb hbl x3, bel_cell hb hbl x4, bel_cell hb hbl' y0, bel_cell hb hbl' y1, bel_cell hb hbl' y2, bel_cell hb hbl' y3, bel_cell hb hbl' y4⟩ : (w'.cell? ⟨b, o, none⟩ = some (.string s.1) ∧ w'.cell? ⟨b, o + 1, none⟩ = some (.int .i64 s.2.1) ∧ w'.cell? ⟨b, o + 2, none⟩ = some (.int .i64 s.2.2.1) ∧ w'.cell? ⟨b, o + 3, none⟩ = some (.int .i64 s.2.2.2.1) ∧ w'.cell? ⟨b, o + 4, none⟩ = some (dv 0) ∧ w'.cell? ⟨b', o', none⟩ = some (.string s.1) ∧ w'.cell? ⟨b', o' + 1, none⟩ = some (.int .i64 s.2.1) ∧ w'.cell? ⟨b', o' + 2, none⟩ = some (.int .i64 s.2.2.1) ∧ w'.cell? ⟨b', o' + 3, none⟩ = some (.int .i64 s.2.2.2.1) ∧ w'.cell? ⟨b', o' + 4, none⟩ = some (du 0)))
  have HKH := Lib.hid HK
  clear SM HK x0 x1 x2 x3 x4 y0 y1 y2 y3 y4 hxs hys hr hr' hv hu
  refine hideR fun R' HR => ?_
  go_enter Try.func35, Try.ntmps35
  go_wp2_with fail
  refine wp_loop_rounds 2 ?_
  rw [rounds_succ]
  go_upto_region 6 with fail
  go_region_held3 (fun w' => w'.cell? ⟨b, o, none⟩ = some (.string s.1) ∧ w'.cell? ⟨b, o + 1, none⟩ = some (.int .i64 s.2.1) ∧ w'.cell? ⟨b, o + 2, none⟩ = some (.int .i64 s.2.2.1) ∧ w'.cell? ⟨b, o + 3, none⟩ = some (.int .i64 s.2.2.2.1) ∧ w'.cell? ⟨b, o + 4, none⟩ = some (dv 0) ∧ w'.cell? ⟨b', o', none⟩ = some (.string s.1) ∧ w'.cell? ⟨b', o' + 1, none⟩ = some (.int .i64 s.2.1) ∧ w'.cell? ⟨b', o' + 2, none⟩ = some (.int .i64 s.2.2.1) ∧ w'.cell? ⟨b', o' + 3, none⟩ = some (.int .i64 s.2.2.2.1) ∧ w'.cell? ⟨b', o' + 4, none⟩ = some (du 0)) (first | exact HKH.out _ (Below.refl _ _).drew | exact HKH.out _ hb1)
    (first
      | (go_at_call 106; refine (SMH.out _ (Below.refl _ _).drew).out.mono ?_; rintro e w6 ⟨rfl, xb6⟩; have hb1 : Below w.heap.size w w6 := (Below.refl _ _).drew.trans xb6))
  go_wp2_with fail
  rw [rounds_succ]
  go_wp2_with fail
  exact HR.out _ _ ⟨rfl, hb1⟩
end Go.Proofs.Ytpijbdddegbjbaa
