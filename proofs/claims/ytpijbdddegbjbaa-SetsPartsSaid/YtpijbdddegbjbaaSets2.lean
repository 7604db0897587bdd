/- Slices of sets in memory; sets.Least. No condition. -/
import Derived.Test.YtpijbdddegbjbaaSets1
namespace Go.Proofs.Ytpijbdddegbjbaa
open Go.RowKit Go.Proofs Go.Sort
/-- The cells of a set. -/
def SetAt (w : World) (b o : Nat) (s : SetV) (dv : Value) : Prop :=
  w.cell? ⟨b, o, none⟩ = some (.string s.1) ∧ w.cell? ⟨b, o + 1, none⟩ = some (.int .i64 s.2.1) ∧ w.cell? ⟨b, o + 2, none⟩ = some (.int .i64 s.2.2.1) ∧ w.cell? ⟨b, o + 3, none⟩ = some (.int .i64 s.2.2.2.1) ∧ w.cell? ⟨b, o + 4, none⟩ = some dv
theorem SetAt.below {w w' : World} {b o B : Nat} {s : SetV} {dv : Value} (h : SetAt w b o s dv) (hb : Below B w w') (h1 : b < B) : SetAt w' b o s dv :=
  ⟨bel_cell hb h1 h.1, bel_cell hb h1 h.2.1, bel_cell hb h1 h.2.2.1, bel_cell hb h1 h.2.2.2.1, bel_cell hb h1 h.2.2.2.2⟩
/-- A slice of sets. -/
def SetsAt (w : World) (v : Value) (l : List SetV) : Prop :=
  ∃ (ao : Option Addr) (cap : Nat) (dv : Nat → Value), v = .slice ao l.length cap ∧ ∀ i (h : i < l.length), ∃ b o, ao = some ⟨b, o, none⟩ ∧ SetAt w b (o + i * 5) l[i] (dv i) ∧ StrsAt w (dv i) l[i].2.2.2.2
theorem SetsAt.below {w w' : World} {v : Value} {l : List SetV} (h : SetsAt w v l) (hb : Below w.heap.size w w') : SetsAt w' v l := by
  obtain ⟨ao, cap, dv, rfl, h⟩ := h
  refine ⟨ao, cap, dv, rfl, fun i hi => ?_⟩
  obtain ⟨b, o, rfl, hs, hd⟩ := h i hi
  exact ⟨b, o, rfl, hs.below hb (cell_lt hs.1), hd.below hb⟩
theorem SetsAt.open {w : World} {v : Value} {l : List SetV} (h : SetsAt w v l) (hne : l ≠ []) : ∃ (b o cap : Nat) (dv : Nat → Value), v = .slice (some ⟨b, o, none⟩) l.length cap ∧ b < w.heap.size ∧ ∀ i (h : i < l.length), SetAt w b (o + i * 5) l[i] (dv i) ∧ StrsAt w (dv i) l[i].2.2.2.2 := by
  obtain ⟨ao, cap, dv, rfl, h⟩ := h
  have h0 : 0 < l.length := List.length_pos_iff.2 hne
  obtain ⟨b, o, rfl, hr, _⟩ := h 0 h0
  refine ⟨b, o, cap, dv, rfl, cell_lt hr.1, fun i hi => ?_⟩
  obtain ⟨b', o', e, hr'⟩ := h i hi
  cases e
  exact hr'
theorem SetsAt.nil {w : World} {v : Value} (h : SetsAt w v []) : ∃ ao cap, v = .slice ao 0 cap := by
  obtain ⟨ao, cap, dv, rfl, _⟩ := h
  exact ⟨ao, cap, rfl⟩
def leastOf (n : Int) (l : List SetV) : Int := (l.map fun s => s.2.2.2.1).foldl min n
def leastS (l : List SetV) : Int := match l with
  | [] => 0
  | s :: _ => leastOf s.2.2.2.1 l
theorem least_snoc (n : Int) (l : List SetV) (k : Nat) (h : k < l.length) : leastOf n (l.take (k + 1)) = min (leastOf n (l.take k)) l[k].2.2.2.1 := by
  unfold leastOf
  rw [List.take_succ_eq_append_getElem h, List.map_append, List.foldl_append]
  rfl
set_option maxRecDepth 100000 in
set_option maxHeartbeats 1000000 in
theorem least_ok (v : Value) (l : List SetV) (w : World) (h : SetsAt w v l) (hn : l.length ≤ 1000000000) :
    Calls Try.prog 31 #[v] w fun e w' => e = .returned (.int .i64 (leastS l)) ∧ Below w.heap.size w w' := by
  refine hideR fun R' HR => ?_
  by_cases hne : l = []
  · subst hne
    obtain ⟨ao, cap, rfl⟩ := h.nil
    go_enter Try.func31, Try.ntmps31
    go_wp2
    exact HR.out _ _ ⟨rfl, Below.refl _ _⟩
  · obtain ⟨b, o, cap, dv, rfl, hblt, hr⟩ := h.open hne
    have hpos : 0 < l.length := List.length_pos_iff.2 hne
    have h0' : ((l.length : Int) == 0) = false := by simp [hne]
    have hpos' : (0 : Int) < (l.length : Int) := by omega
    have HE : Hid (leastS l = leastOf l[0].2.2.2.1 l) := by
      cases l with
      | nil => exact absurd rfl hne
      | cons x l => exact Lib.hid rfl
    obtain ⟨⟨_, _, _, z3, _⟩, _⟩ := hr 0 hpos
    simp only [Nat.zero_mul, Nat.add_zero] at z3
    have HC := Lib.hid hr
    generalize l[0].2.2.2.1 = n0 at *
    clear hr h hne
    go_enter Try.func31, Try.ntmps31
    go_wp2
    go_loopw [3, 5, 15] (fun n _ i wr => ∃ k : Nat, k ≤ l.length ∧ i = .int .i64 k ∧ n = .int .i64 (leastOf n0 (l.take k)) ∧ Hid (Below w.heap.size w wr)) (fun _ _ i _ => l.length - (intOf i).toNat)
    case atStart => exact ⟨0, Nat.zero_le _, rfl, rfl, Below.refl _ _⟩
    case round =>
      obtain ⟨k, hk, rfl, rfl, HB⟩ := hrel
      by_cases hlt : k < l.length
      · have hlt' : (k : Int) < (l.length : Int) := by omega
        obtain ⟨c0, c1, c2, c3, c4⟩ := (HC.out k hlt).1.below HB.out hblt
        have HS := Lib.hid (least_snoc n0 l k hlt)
        generalize hs : l[k] = s at c0 c1 c2 c3 c4 HS
        clear hs
        generalize leastOf n0 (l.take k) = m at *
        obtain ⟨ad, nd, cd, hd⟩ : ∃ a n c, dv k = .slice a n c := by
          obtain ⟨_, g, o, c, h, _⟩ := (HC.out k hlt).2
          exact ⟨_, _, _, h⟩
        rw [hd] at c4
        clear hd
        go_wp2
        go_roundw
        case rel => exact ⟨k + 1, by omega, by go_num, by rw [HS.out], HB.out.alloc HB.out.size _⟩
        case measure => simp [intOf]; omega
      · have hkl : k = l.length := by omega
        subst hkl
        have hlt' : ¬ ((l.length : Int) < (l.length : Int)) := by omega
        go_wp2
        refine HR.out _ _ ⟨?_, HB.out⟩
        rw [HE.out]
end Go.Proofs.Ytpijbdddegbjbaa
