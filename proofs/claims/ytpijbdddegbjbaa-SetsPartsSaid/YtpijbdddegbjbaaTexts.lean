/- Slices of texts in memory; ostiarykit.SameTexts. No condition. -/
import Derived.Test.YtpijbdddegbjbaaSets2
namespace Go.Proofs.Ytpijbdddegbjbaa
open Go.RowKit Go.Proofs
/-- A slice of texts, empty or not. -/
def TextsAt (w : World) (v : Value) (l : List ByteArray) : Prop :=
  ∃ (ao : Option Addr) (cap : Nat), v = .slice ao l.length cap ∧ ∀ i (h : i < l.length), ∃ b o, ao = some ⟨b, o, none⟩ ∧ w.cell? ⟨b, o + i, none⟩ = some (.string l[i])
theorem StrsAt.texts {w : World} {v : Value} {l : List ByteArray} (h : StrsAt w v l) : TextsAt w v l := by
  obtain ⟨h0, g, o, cap, rfl, h⟩ := h
  exact ⟨_, cap, rfl, fun i hi => ⟨g, o, rfl, h i hi⟩⟩
theorem TextsAt.below {w w' : World} {v : Value} {l : List ByteArray} (h : TextsAt w v l) (hb : Below w.heap.size w w') : TextsAt w' v l := by
  obtain ⟨ao, cap, rfl, h⟩ := h
  refine ⟨ao, cap, rfl, fun i hi => ?_⟩
  obtain ⟨b, o, rfl, hr⟩ := h i hi
  exact ⟨b, o, rfl, bel_cell hb (cell_lt hr) hr⟩
theorem TextsAt.open {w : World} {v : Value} {l : List ByteArray} (h : TextsAt w v l) (hne : l ≠ []) : ∃ b o cap, v = .slice (some ⟨b, o, none⟩) l.length cap ∧ b < w.heap.size ∧ ∀ i (h : i < l.length), w.cell? ⟨b, o + i, none⟩ = some (.string l[i]) := by
  obtain ⟨ao, cap, rfl, h⟩ := h
  have h0 : 0 < l.length := List.length_pos_iff.2 hne
  obtain ⟨b, o, rfl, hr⟩ := h 0 h0
  refine ⟨b, o, cap, rfl, cell_lt hr, fun i hi => ?_⟩
  obtain ⟨b', o', e, hr'⟩ := h i hi
  cases e
  exact hr'
theorem TextsAt.len {w : World} {v : Value} {l : List ByteArray} (h : TextsAt w v l) : ∃ ao cap, v = .slice ao l.length cap := by
  obtain ⟨ao, cap, rfl, _⟩ := h
  exact ⟨ao, cap, rfl⟩
theorem str_eq (a b : ByteArray) : (a.toList == b.toList) = decide (a = b) := by
  rw [← beq_toListBytes, bytes_beq]
set_option maxRecDepth 100000 in
set_option maxHeartbeats 1000000 in
/-- SameTexts. -/
theorem sameTexts_ok (v u : Value) (a b : List ByteArray) (w : World) (ha : TextsAt w v a) (hb : TextsAt w u b) (hn : a.length ≤ 1000000000) (hm : b.length ≤ 1000000000) :
    Calls Try.prog 94 #[v, u] w fun e w' => e = .returned (.bool (decide (a = b))) ∧ Below w.heap.size w w' := by
  refine hideR fun R' HR => ?_
  by_cases hl : a.length = b.length
  · by_cases hne : a = []
    · have hbe : b = [] := by rw [hne] at hl; exact List.length_eq_zero_iff.1 hl.symm
      subst hne hbe
      obtain ⟨ao, ca, rfl⟩ := ha.len
      obtain ⟨bo, cb, rfl⟩ := hb.len
      clear ha hb
      go_enter Try.func94, Try.ntmps94
      go_wp2
      refine wp_loop_rounds 1 ?_
      rw [rounds_succ]
      go_wp2
      exact HR.out _ _ ⟨rfl, Below.refl _ _⟩
    · have hnb : b ≠ [] := by rintro rfl; exact hne (List.length_eq_zero_iff.1 hl)
      obtain ⟨g, o, ca, rfl, hgl, hca⟩ := ha.open hne
      obtain ⟨g', o', cb, rfl, hgl', hcb⟩ := hb.open hnb
      have hl' : ((a.length : Int) != (b.length : Int)) = false := by simp [hl]
      have HL := Lib.hid hl
      have HA := Lib.hid hca
      have HB := Lib.hid hcb
      clear hl hca hcb ha hb hne hnb
      go_enter Try.func94, Try.ntmps94
      go_wp2
      go_loopw [5] (fun i wr => ∃ k : Nat, k ≤ a.length ∧ i = .int .i64 k ∧ Hid (a.take k = b.take k) ∧ Hid (Below w.heap.size w wr)) (fun i _ => a.length - (intOf i).toNat)
      case atStart => exact ⟨0, Nat.zero_le _, rfl, by simp [Hid], Below.refl _ _⟩
      case round =>
        obtain ⟨k, hk, rfl, HT, HW⟩ := hrel
        by_cases hlt : k < a.length
        · have hltb : k < b.length := by rw [← HL.out]; exact hlt
          have c1 := bel_cell HW.out hgl (HA.out k hlt)
          have c2 := bel_cell HW.out hgl' (HB.out k hltb)
          have hk1 : (k : Int) < (a.length : Int) := by omega
          have hk2 : (k : Int) < (b.length : Int) := by omega
          have hk0 : (0 : Int) ≤ (k : Int) := by omega
          by_cases heq : a[k] = b[k]
          · have heq' : (a[k].toList == b[k].toList) = true := by simp [heq]
            have HT' : Hid (a.take (k + 1) = b.take (k + 1)) := by
              rw [List.take_succ_eq_append_getElem hlt, List.take_succ_eq_append_getElem hltb, HT.out, heq]
              exact Lib.hid rfl
            clear heq
            go_wp2
            go_quiet (fail)
            go_wp2
            go_roundw
            case rel => exact ⟨k + 1, by omega, by go_num, HT', bel_drewN HW.out _⟩
            case measure => simp [intOf]; omega
          · have heq' : (a[k].toList == b[k].toList) = false := by rw [str_eq]; exact decide_eq_false heq
            have HE : Hid (decide (a = b) = false) := by
              refine Lib.hid (decide_eq_false ?_)
              rintro rfl
              exact heq rfl
            clear heq
            go_wp2
            go_quiet (fail)
            go_wp2
            exact HR.out _ _ ⟨by rw [HE.out]; rfl, bel_drewN HW.out _⟩
        · have hkl : k = a.length := by omega
          subst hkl
          have HE : Hid (decide (a = b) = true) := by
            refine Lib.hid (decide_eq_true ?_)
            have := HT.out
            rw [List.take_length, HL.out, List.take_length] at this
            exact this
          have hlt' : ¬ ((a.length : Int) < (a.length : Int)) := by omega
          go_wp2
          exact HR.out _ _ ⟨by rw [HE.out], HW.out⟩
  · obtain ⟨ao, ca, rfl⟩ := ha.len
    obtain ⟨bo, cb, rfl⟩ := hb.len
    have hl' : ((a.length : Int) != (b.length : Int)) = true := by simp; omega
    have HE : Hid (decide (a = b) = false) := Lib.hid (decide_eq_false (by rintro rfl; exact hl rfl))
    clear hl ha hb
    go_enter Try.func94, Try.ntmps94
    go_wp2
    exact HR.out _ _ ⟨by rw [HE.out]; rfl, Below.refl _ _⟩
end Go.Proofs.Ytpijbdddegbjbaa
