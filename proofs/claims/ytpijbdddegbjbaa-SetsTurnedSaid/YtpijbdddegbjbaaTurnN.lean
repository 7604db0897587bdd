/- ostiarylaw22.SetsTurned returns true at no record. No condition. -/
import Derived.Test.YtpijbdddegbjbaaTurnM
namespace Go.Proofs.Ytpijbdddegbjbaa
open Go.RowKit Go.Proofs Go.Sort
set_option maxRecDepth 100000 in
set_option maxHeartbeats 1000000 in
theorem turned_nil (v u : Value) (t : List Int) (w : World) (h : RecsAt w v []) (ht : TurnsAt w u t) :
    Calls Try.prog 4 #[v, u] w fun e w' => e = .returned (.bool true) ∧ Below w.heap.size w w' := by
  refine hideR fun R' HR => ?_
  have HV := Lib.hid h
  obtain ⟨uo, uc, hu⟩ : ∃ uo uc, u = .slice uo t.length uc := let ⟨a, b, e, _⟩ := ht; ⟨a, b, e⟩
  obtain ⟨ao, cap, hv⟩ := h.nil
  subst hv hu
  clear h ht
  go_enter Try.func4, Try.ntmps4
  go_wp2_with fail
  refine (awake22_ok _).mono ?_
  rintro e w1 ⟨rfl, b1⟩
  go_wp2_with fail
  refine (longRecs_ok _ [] 40 w1 (HV.out.below b1) ⟨by simp, by simp⟩ (by decide) (by decide)).mono ?_
  rintro e w2 ⟨lb, rfl, hlb, b2⟩
  have b12 := b1.trans (b2.mono b1.size)
  cases lb with
  | true =>
    go_wp2
    exact HR.out _ _ ⟨rfl, b12⟩
  | false =>
    clear hlb
    by_cases ht100 : (100 : Int) < (t.length : Int)
    · go_wp2
      exact HR.out _ _ ⟨rfl, b12⟩
    · go_wp2_with fail
      refine wp_loop_rounds 1 ?_
      rw [rounds_succ]
      have hBA : Below w.heap.size w (w2.alloc (.cells #[] 43)) := b12.alloc b12.size _
      have fin : ∀ (mo : Option Addr) (mc : Nat), RecsAt (w2.alloc (.cells #[] 43)) (.slice mo 0 mc) [] := fun mo mc => ⟨mo, mc, rfl, fun i hi => by simp at hi⟩
      have FIN := Lib.hid fin
      have HBA := Lib.hid hBA
      have hsz := b12.size
      clear fin hBA b12 b1 b2
      by_cases h0 : (0 : Int) < (t.length : Int)
      all_goals
        cases ao
        all_goals
          go_wp2_with fail
          refine wp_loop_rounds 1 ?_
          rw [rounds_succ]
          go_wp2_with fail
          refine (group_ok _ [] _ (FIN.out _ _) (by simp) (by simp)).mono ?_
          rintro e w4 ⟨xv, LA, rfl, hOA, hLA, hB4⟩
          go_wp2_with fail
          refine (group_ok _ [] _ ((FIN.out _ _).below hB4) (by simp) (by simp)).mono ?_
          rintro e w5 ⟨yv, LB, rfl, hOB, hLB, hB5⟩
          have hSA := hOA.sets
          have hSB := hOB.sets
          rw [hLA] at hSA
          rw [hLB] at hSB
          have hSA := hSA.below hB5
          have hBB := (HBA.out.trans (hB4.mono HBA.out.size)).trans (hB5.mono (by have := hB4.size; have := HBA.out.size; omega))
          change SetsAt w5 xv [] at hSA
          change SetsAt w5 yv [] at hSB
          obtain ⟨xo, xc, rfl⟩ := hSA.nil
          obtain ⟨yo, yc, rfl⟩ := hSB.nil
          clear hOA hLA hOB hLB hB4 hB5
          go_wp2_with fail
          refine wp_loop_rounds 1 ?_
          rw [rounds_succ]
          go_wp2_with fail
          refine (least_ok _ [] _ hSA (by simp)).mono ?_
          rintro e w6 ⟨rfl, b6⟩
          go_wp2_with fail
          refine (least_ok _ [] _ (hSB.below b6) (by simp)).mono ?_
          rintro e w7 ⟨rfl, b7⟩
          have hle : (leastS [] == leastS []) = true := by simp
          go_wp2_with fail
          exact HR.out _ _ ⟨rfl, hBB.trans ((b6.trans (b7.mono b6.size)).mono hBB.size)⟩
end Go.Proofs.Ytpijbdddegbjbaa
