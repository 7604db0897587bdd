/- How slices of records lie in memory. No condition. -/
import Derived.Test.YtpijbdddegbjbaaLower
import Derived.Test.YtpijbdddegbjbaaSetK
import Derived.BigQuiet
import Derived.Deep.QuietTactic
import Derived.IntWalk
namespace Go.Proofs.Ytpijbdddegbjbaa
open Go.RowKit Go.Proofs
theorem bel_drewN {B : Nat} {w w' : World} (h : Below B w w') (q : Nat) : Below B w (w'.drewN q) := ⟨h.os, h.tape, h.output, h.size, h.block⟩
abbrev RecV := ByteArray × Int × Int × Int × ByteArray
def recCells (r : RecV) : List Value := [.string r.1, .int .i64 r.2.1, .int .i64 r.2.2.1, .int .i64 r.2.2.2.1, .string r.2.2.2.2]
/-- The cells of a record. -/
def RecAt (w : World) (b o : Nat) (r : RecV) : Prop :=
  w.cell? ⟨b, o, none⟩ = some (.string r.1) ∧ w.cell? ⟨b, o + 1, none⟩ = some (.int .i64 r.2.1) ∧ w.cell? ⟨b, o + 2, none⟩ = some (.int .i64 r.2.2.1) ∧ w.cell? ⟨b, o + 3, none⟩ = some (.int .i64 r.2.2.2.1) ∧ w.cell? ⟨b, o + 4, none⟩ = some (.string r.2.2.2.2)
/-- A slice of records. -/
def RecsAt (w : World) (v : Value) (l : List RecV) : Prop :=
  ∃ ao cap, v = .slice ao l.length cap ∧ ∀ i (h : i < l.length), ∃ b o, ao = some ⟨b, o, none⟩ ∧ RecAt w b (o + i * 5) l[i]
theorem RecAt.below {w w' : World} {b o B : Nat} {r : RecV} (h : RecAt w b o r) (hb : Below B w w') (h1 : b < B) : RecAt w' b o r :=
  ⟨bel_cell hb h1 h.1, bel_cell hb h1 h.2.1, bel_cell hb h1 h.2.2.1, bel_cell hb h1 h.2.2.2.1, bel_cell hb h1 h.2.2.2.2⟩
theorem RecAt.lt {w : World} {b o : Nat} {r : RecV} (h : RecAt w b o r) : b < w.heap.size := cell_lt h.1
theorem RecsAt.below {w w' : World} {v : Value} {l : List RecV} (h : RecsAt w v l) (hb : Below w.heap.size w w') : RecsAt w' v l := by
  obtain ⟨ao, cap, rfl, h⟩ := h
  refine ⟨ao, cap, rfl, fun i hi => ?_⟩
  obtain ⟨b, o, rfl, hr⟩ := h i hi
  exact ⟨b, o, rfl, hr.below hb hr.lt⟩
/-- The whole of it in one block. -/
theorem RecsAt.open {w : World} {v : Value} {l : List RecV} (h : RecsAt w v l) (hne : l ≠ []) : ∃ b o cap, v = .slice (some ⟨b, o, none⟩) l.length cap ∧ b < w.heap.size ∧ ∀ i (h : i < l.length), RecAt w b (o + i * 5) l[i] := by
  obtain ⟨ao, cap, rfl, h⟩ := h
  have h0 : 0 < l.length := List.length_pos_iff.2 hne
  obtain ⟨b, o, rfl, hr⟩ := h 0 h0
  refine ⟨b, o, cap, rfl, hr.lt, fun i hi => ?_⟩
  obtain ⟨b', o', e, hr'⟩ := h i hi
  cases e
  exact hr'
theorem RecsAt.nil {w : World} {v : Value} (h : RecsAt w v []) : ∃ ao cap, v = .slice ao 0 cap := by
  obtain ⟨ao, cap, rfl, _⟩ := h
  exact ⟨ao, cap, rfl⟩
/-- Its strings are not too long. -/
def Fits (l : List RecV) : Prop := l.length ≤ 100000000000000 ∧ ∀ r ∈ l, r.1.size ≤ 140737488351232 ∧ r.2.2.2.2.size ≤ 140737488351232
def sizeR (r : RecV) : Nat := r.1.size + r.2.2.2.2.size
def sumR (l : List RecV) : Nat := (l.map sizeR).sum
theorem sumR_snoc (l : List RecV) (k : Nat) (h : k < l.length) : sumR (l.take (k + 1)) = sumR (l.take k) + (l[k].1.size + l[k].2.2.2.2.size) := by
  unfold sumR
  rw [List.take_succ_eq_append_getElem h, List.map_append, List.sum_append]
  simp [sizeR]
theorem sumR_le (l : List RecV) (r : RecV) (h : r ∈ l) : sizeR r ≤ sumR l := by
  unfold sumR
  induction l with
  | nil => simp at h
  | cons x l ih =>
    rcases List.mem_cons.1 h with h | h
    · subst h; simp
    · have := ih h; simp; omega
set_option maxRecDepth 100000 in
/-- LongRecs. -/
theorem longRecs_ok (v : Value) (l : List RecV) (most : Int) (w : World) (h : RecsAt w v l) (hf : Fits l) (hm : 0 ≤ most) (hm2 : most ≤ 1000) :
    Calls Try.prog 26 #[v, .int .i64 most] w fun e w' => ∃ b : Bool, e = .returned (.bool b) ∧ (b = false → (l.length : Int) ≤ most ∧ sumR l ≤ 2000) ∧ Below w.heap.size w w' := by
  refine hideR fun R' HR => ?_
  by_cases hne : l = []
  · subst hne
    obtain ⟨ao, cap, rfl⟩ := h.nil
    go_enter Try.func26, Try.ntmps26
    go_wp2
    refine wp_loop_rounds 1 ?_
    rw [rounds_succ]
    go_wp2
    exact HR.out _ _ ⟨_, rfl, fun _ => by simp [sumR, hm], Below.refl _ _⟩
  · obtain ⟨b, o, cap, rfl, hblt, hr⟩ := h.open hne
    have HC := Lib.hid hr
    have HF := Lib.hid hf
    have hl1 := hf.1
    clear hr hf h hne
    go_enter Try.func26, Try.ntmps26
    go_wp2
    go_loopw [5, 6] (fun n i wr => ∃ k : Nat, k ≤ l.length ∧ i = .int .i64 k ∧ n = .int .i64 (sumR (l.take k)) ∧ sumR (l.take k) ≤ 281474976720000 ∧ Hid (Below w.heap.size w wr)) (fun _ i _ => l.length - (intOf i).toNat)
    case atStart => exact ⟨0, Nat.zero_le _, rfl, rfl, by simp [sumR], Below.refl _ _⟩
    case round =>
      obtain ⟨k, hk, rfl, rfl, hs, HB⟩ := hrel
      by_cases hgo : k < l.length ∧ sumR (l.take k) ≤ 2000
      · obtain ⟨hlt, h2000⟩ := hgo
        have hlt' : decide ((k : Int) < (l.length : Int)) = true := by simp; omega
        have hq : decide ((sumR (l.take k) : Int) ≤ 2000) = true := by simp; omega
        obtain ⟨c0, c1, c2, c3, c4⟩ := (HC.out k hlt).below HB.out hblt
        have hz := HF.out.2 l[k] (List.getElem_mem hlt)
        have hz1 := hz.1
        have hz2 := hz.2
        have HS := Lib.hid (sumR_snoc l k hlt)
        generalize l[k] = r at *
        generalize hS : sumR (l.take k) = S at *
        have hk0 : (0 : Int) ≤ (k : Int) := by omega
        have hkl : (k : Int) < (l.length : Int) := by omega
        have hw1 : IntKind.i64.wrap ((S : Int) + (r.1.size : Int)) = (S : Int) + (r.1.size : Int) := IntWalk.i64_in _ (by omega)
        have hw2 : IntKind.i64.wrap ((S : Int) + (r.1.size : Int) + (r.2.2.2.2.size : Int)) = (S : Int) + (r.1.size : Int) + (r.2.2.2.2.size : Int) := IntWalk.i64_in _ (by omega)
        clear hS hz
        go_wp2
        go_quiet (fail)
        clear hw1 hw2
        go_wp2
        go_roundw
        case rel => exact ⟨k + 1, by omega, by go_num, by rw [HS.out]; go_num, by rw [HS.out]; omega, bel_drewN HB.out _⟩
        case measure => simp [intOf]; omega
      · have HT : Hid (k = l.length → sumR (l.take k) = sumR l) := Lib.hid (by rintro rfl; rw [List.take_length])
        have hgo' : k = l.length ∨ ¬ sumR (l.take k) ≤ 2000 := by omega
        generalize sumR (l.take k) = S at *
        by_cases hlt : k < l.length
        · have hlt' : decide ((k : Int) < (l.length : Int)) = true := by simp; omega
          have hq : decide ((S : Int) ≤ 2000) = false := by simp; omega
          have hS : 2000 < (S : Int) := by omega
          by_cases hlm : (l.length : Int) > most
          · have hlm' : decide ((l.length : Int) > most) = true := by simpa using hlm
            clear hgo hgo' hlm
            go_wp2
            exact HR.out _ _ ⟨true, rfl, by simp, HB.out⟩
          · have hlm' : decide ((l.length : Int) > most) = false := by simpa using hlm
            have hS' : decide ((S : Int) > 2000) = true := by simp; omega
            clear hgo hgo' hlm
            go_wp2
            exact HR.out _ _ ⟨true, rfl, by simp, HB.out⟩
        · have hlt' : decide ((k : Int) < (l.length : Int)) = false := by simp; omega
          have hkl : k = l.length := by omega
          have HS := Lib.hid (HT.out hkl)
          have HT2 : Hid ((¬ (l.length : Int) > most) → (l.length : Int) ≤ most) := Lib.hid (by omega)
          by_cases hlm : (l.length : Int) > most
          · have hlm' : decide ((l.length : Int) > most) = true := by simpa using hlm
            clear hgo hgo' hlm hkl
            go_wp2
            exact HR.out _ _ ⟨true, rfl, by simp, HB.out⟩
          · have HL := Lib.hid (HT2.out hlm)
            have hlm' : decide ((l.length : Int) > most) = false := by simpa using hlm
            by_cases hS2 : (S : Int) > 2000
            · have hS' : decide ((S : Int) > 2000) = true := by simpa using hS2
              clear hgo hgo' hlm hkl hS2
              go_wp2
              exact HR.out _ _ ⟨true, rfl, by simp, HB.out⟩
            · have HS3 : Hid (S ≤ 2000) := Lib.hid (by omega)
              have hS' : decide ((S : Int) > 2000) = false := by simpa using hS2
              clear hgo hgo' hlm hkl hS2
              go_wp2
              exact HR.out _ _ ⟨false, rfl, fun _ => ⟨HL.out, by rw [← HS.out]; exact HS3.out⟩, HB.out⟩
end Go.Proofs.Ytpijbdddegbjbaa
