/- Contracts of package name: Lower, Same. No condition but a bound on sizes. -/
import Derived.Test.YtpijbdddegbjbaaLab2
import Derived.Laws.IdiomStrings
import Derived.WalkKit
import Derived.Outline
namespace Go.Proofs.Ytpijbdddegbjbaa
open Go.RowKit Go.Proofs Go.Shelf
theorem addr_add (b o n : Nat) : (Addr.mk b o none).add n = ⟨b, o + n, none⟩ := by
  unfold Addr.add; split <;> simp_all
/-- a to z for A to Z. -/
def lo (c : UInt8) : UInt8 := if 65 ≤ c.toNat ∧ c.toNat ≤ 90 then c + 32 else c
def enc8 (c : UInt8) : Value := .int .u8 (c.toNat : Int)
theorem lo_big {c : UInt8} (h : 65 ≤ c.toNat ∧ c.toNat ≤ 90) : ((lo c).toNat : Int) = (c.toNat : Int) + 32 := by
  unfold lo
  rw [if_pos h, UInt8.toNat_add, Nat.mod_eq_of_lt]
  · simp
  · simp; omega
theorem lo_small {c : UInt8} (h : ¬ (65 ≤ c.toNat ∧ c.toNat ≤ 90)) : lo c = c := by unfold lo; rw [if_neg h]
/-- A block whose first cells are bytes; what may be marked stands behind all cells. -/
def BytesIn (w : World) (b : Nat) (l : List UInt8) : Prop := ∃ cur m, w.heap[b]? = some (.cells cur 5 (m, m + 1)) ∧ cur.size = m ∧ cur.toList.take l.length = l.map enc8 ∧ l.length ≤ m
theorem BytesIn.cell {w : World} {b : Nat} {l : List UInt8} (h : BytesIn w b l) (k : Nat) (hk : k < l.length) : w.cell? ⟨b, k, none⟩ = some (.int .u8 (l[k].toNat : Int)) := by
  obtain ⟨cur, m, h1, h2, h3, h4⟩ := h
  rw [blk_cell h1]
  have := congrArg (fun m => m[k]?) h3
  simp only [List.getElem?_take, if_pos hk, List.getElem?_map, List.getElem?_eq_getElem hk, Option.map_some] at this
  simpa [enc8] using this
theorem BytesIn.free {w : World} {b : Nat} {l : List UInt8} (h : BytesIn w b l) (k : Nat) (hk : k < l.length) : w.frozen? ⟨b, k, none⟩ = false := by
  obtain ⟨cur, m, h1, h2, h3, h4⟩ := h
  exact blk_free h1 k (.inl (by omega))
theorem BytesIn.set {w : World} {b : Nat} {l : List UInt8} (h : BytesIn w b l) (k : Nat) (hk : k < l.length) (c : UInt8) (n : Int) (hn : n = (c.toNat : Int)) : BytesIn (w.setCell ⟨b, k, none⟩ (.int .u8 n)) b (l.set k c) := by
  obtain ⟨cur, m, h1, h2, h3, h4⟩ := h
  subst hn
  refine ⟨_, m, blk_set h1 k _, by simpa using h2, ?_, by simpa using h4⟩
  rw [List.length_set, Array.toList_setIfInBounds, List.take_set, h3, List.map_set]
  rfl
theorem BytesIn.below {w w' : World} {b B : Nat} {l : List UInt8} (h : BytesIn w b l) (hb : Below B w w') (h1 : b < B) : BytesIn w' b l := by
  obtain ⟨cur, m, h1', h2⟩ := h
  exact ⟨cur, m, bel_blk hb h1 h1', h2⟩
theorem BytesIn.lt {w : World} {b : Nat} {l : List UInt8} (h : BytesIn w b l) : b < w.heap.size := by obtain ⟨cur, m, h1, _⟩ := h; exact blk_lt h1
theorem BytesIn.new (w : World) (s : ByteArray) (cap : Nat) (hc : s.size ≤ cap) : BytesIn (w.alloc (.cells (bytesRow s cap) 5 ((bytesRow s cap).size, (bytesRow s cap).size + 1))) w.heap.size (bl s) := by
  refine ⟨_, _, blk_new w _, rfl, ?_, ?_⟩
  · have e : (bl s).length = (s.data.map (fun b => Value.int .u8 b.toNat)).toList.length := by simp [bl]
    rw [bytesRow, Array.toList_append, e, List.take_left]
    simp [bl, enc8]
  · rw [bl_len]; simp [bytesRow]
def lowerL (l : List UInt8) : List UInt8 := l.map lo
theorem low_at (l : List UInt8) (k : Nat) (h : k < l.length) : ((l.take k).map lo ++ l.drop k).length = l.length ∧ ((l.take k).map lo ++ l.drop k)[k]? = some l[k] := by
  constructor
  · simp; omega
  · rw [List.getElem?_append_right (by simp; omega)]
    simp [Nat.min_eq_left (Nat.le_of_lt h), h]
theorem low_next (l : List UInt8) (k : Nat) (h : k < l.length) : ((l.take k).map lo ++ l.drop k).set k (lo l[k]) = (l.take (k + 1)).map lo ++ l.drop (k + 1) := by
  rw [List.set_append_right _ _ (by simp; omega)]
  have e1 : k - ((l.take k).map lo).length = 0 := by simp; omega
  rw [e1, List.drop_eq_getElem_cons h, List.set_cons_zero, List.take_succ_eq_append_getElem h, List.map_append, List.append_assoc]
  rfl
theorem low_skip (l : List UInt8) (k : Nat) (h : k < l.length) (hs : lo l[k] = l[k]) : (l.take k).map lo ++ l.drop k = (l.take (k + 1)).map lo ++ l.drop (k + 1) := by
  rw [← low_next l k h, hs]
  rw [List.set_append_right _ _ (by simp; omega)]
  have e1 : k - ((l.take k).map lo).length = 0 := by simp; omega
  rw [e1, List.drop_eq_getElem_cons h, List.set_cons_zero]
set_option maxRecDepth 100000 in
set_option maxHeartbeats 1000000 in
theorem lower_ok (s : ByteArray) (w : World) (hs : s.size ≤ 1000000000) :
    Calls Try.prog 97 #[.string s] w fun e w' => e = .returned (.string (sb (lowerL (bl s)))) ∧ Below w.heap.size w w' := by
  have hconv := fun W => run_bytes_of_string (P := Try.prog) W 9 28 5 s Try.underlying9 Try.underlying28 Try.underlying5
  refine hideR fun R' HR => ?_
  go_enter Try.func97, Try.ntmps97
  go_wp2
  have hbn : BytesIn (w.alloc (.cells (bytesRow s (grownCap w s.size 0 5)) 5 ((bytesRow s (grownCap w s.size 0 5)).size, (bytesRow s (grownCap w s.size 0 5)).size + 1))).drew w.heap.size (bl s) := BytesIn.new w s _ (grownCap_ge w s.size 0 5)
  have hbw : Below w.heap.size w (w.alloc (.cells (bytesRow s (grownCap w s.size 0 5)) 5 ((bytesRow s (grownCap w s.size 0 5)).size, (bytesRow s (grownCap w s.size 0 5)).size + 1))).drew := ((Below.refl _ _).alloc (Nat.le_refl _) _).drew
  generalize (w.alloc (.cells (bytesRow s (grownCap w s.size 0 5)) 5 ((bytesRow s (grownCap w s.size 0 5)).size, (bytesRow s (grownCap w s.size 0 5)).size + 1))).drew = w1 at *
  generalize grownCap w s.size 0 5 = cap
  generalize hB : w.heap.size = B at *
  have HL := Lib.hid (bl_len s)
  have HBn := Lib.hid hbn
  clear hconv hbn hB
  go_loopw [4, 5, 10] (fun _ _ i wr => ∃ k : Nat, k ≤ s.size ∧ i = .int .i64 k ∧ Hid (BytesIn wr B (((bl s).take k).map lo ++ (bl s).drop k)) ∧ Hid (Below B w wr)) (fun _ _ i _ => s.size - (intOf i).toNat)
  case atStart => exact ⟨0, Nat.zero_le _, rfl, by simpa using HBn, hbw⟩
  case round =>
    obtain ⟨k, hk, rfl, HR1, HB1⟩ := hrel
    by_cases hlt : k < s.size
    · have hkl : k < (bl s).length := by rw [HL.out]; exact hlt
      have hla := low_at (bl s) k hkl
      have hcell := HR1.out.cell k (by rw [hla.1]; exact hkl)
      have hfree := HR1.out.free k (by rw [hla.1]; exact hkl)
      have hg := hla.2
      rw [List.getElem?_eq_getElem (by rw [hla.1]; exact hkl)] at hg
      have hg' := Option.some.inj hg
      rw [hg'] at hcell
      have hn := low_next (bl s) k hkl
      have hsk := low_skip (bl s) k hkl
      generalize (bl s)[k] = c at *
      have hc1 : (0 : Int) ≤ (c.toNat : Int) := by omega
      have hc2 : (c.toNat : Int) ≤ 255 := by have := c.toNat_lt; omega
      by_cases hup : 65 ≤ c.toNat ∧ c.toNat ≤ 90
      · have hu1 : (65 : Int) ≤ (c.toNat : Int) := by omega
        have hu2 : (c.toNat : Int) ≤ 90 := by omega
        have HS := Lib.hid (HR1.out.set k (by rw [hla.1]; exact hkl) (lo c) ((c.toNat : Int) + 97 - 65) (by rw [lo_big hup]; omega))
        have HB2 := Lib.hid (HB1.out.setCell (p := ⟨B, k, none⟩) (Nat.le_refl _) (.int .u8 ((c.toNat : Int) + 97 - 65)))
        rw [hn] at HS
        clear hup hn hsk hg hg' hla
        go_wp2
        go_roundw
        case rel => exact ⟨k + 1, by omega, by go_num, HS, HB2⟩
        case measure => simp [intOf]; omega
      · have HS := HR1
        rw [hsk (lo_small hup)] at HS
        clear hn hsk hg hg' hla
        by_cases h65 : 65 ≤ c.toNat
        · have hu1 : (65 : Int) ≤ (c.toNat : Int) := by omega
          have hu2 : ¬ (c.toNat : Int) ≤ 90 := by omega
          clear hup
          go_wp2
          go_roundw
          case rel => exact ⟨k + 1, by omega, by go_num, HS, HB1⟩
          case measure => simp [intOf]; omega
        · have hu1 : ¬ (65 : Int) ≤ (c.toNat : Int) := by omega
          clear hup
          go_wp2
          go_roundw
          case rel => exact ⟨k + 1, by omega, by go_num, HS, HB1⟩
          case measure => simp [intOf]; omega
    · have hks : k = s.size := by omega
      subst hks
      have hfin := HR1.out
      have hL := HL.out
      rw [← hL, List.take_length, List.drop_length, List.append_nil] at hfin
      have hback := run_convert_bytes_back (P := Try.prog) wr 28 9 5 ⟨B, 0, none⟩ cap ((bl s).map lo) Try.underlying28 Try.underlying5 Try.underlying9 (fun j hj => by rw [addr_add, Nat.zero_add]; exact hfin.cell j hj)
      rw [List.length_map, hL] at hback
      clear hfin hL
      go_wp2
      exact HR.out _ _ ⟨rfl, HB1.out⟩
/-- Two names are the same. -/
def sameN (a b : List UInt8) : Bool := labErr a == 0 && labErr b == 0 && lowerL a == lowerL b
set_option maxRecDepth 100000 in
theorem same_ok (a b : ByteArray) (w : World) (ha : a.size ≤ 1000000000) (hb : b.size ≤ 1000000000) :
    Calls Try.prog 99 #[.string a, .string b] w fun e w' => e = .returned (.bool (sameN (bl a) (bl b))) ∧ Below w.heap.size w w' := by
  have c1 := fun W => check_ok a W ha
  have c2 := fun W => check_ok b W hb
  have l1 := fun W => lower_ok a W ha
  have l2 := fun W => lower_ok b W hb
  have HE : Hid (sameN (bl a) (bl b) = (labErr (bl a) == 0 && labErr (bl b) == 0 && lowerL (bl a) == lowerL (bl b))) := Lib.hid rfl
  generalize sameN (bl a) (bl b) = r at *
  generalize labErr (bl a) = ea at *
  generalize labErr (bl b) = eb at *
  generalize lowerL (bl a) = la at *
  generalize lowerL (bl b) = lb at *
  have C1 := Lib.hid c1
  have C2 := Lib.hid c2
  have L1 := Lib.hid l1
  have L2 := Lib.hid l2
  clear c1 c2 l1 l2
  refine hideR fun R' HR => ?_
  by_cases h1 : ea = 0
  · by_cases h2 : eb = 0
    · have h1' : (ea == 0) = true := by simp [h1]
      have h2' : (eb == 0) = true := by simp [h2]
      have e1 : ((sb la).toList == (sb lb).toList) = (la == lb) := by simp [ByteArray.toList_eq, sb]
      have HE' : Hid (r = (la == lb)) := by rw [HE.out, h1', h2']; exact Lib.hid (by simp)
      clear h1 h2
      go_enter Try.func99, Try.ntmps99
      go_wp2_with fail
      refine (C1.out _).mono ?_
      rintro e w1 ⟨rfl, hb1⟩
      go_wp2_with fail
      refine (C2.out _).mono ?_
      rintro e w2 ⟨rfl, hb2⟩
      go_wp2_with fail
      refine (L1.out _).mono ?_
      rintro e w3 ⟨rfl, hb3⟩
      go_wp2_with fail
      refine (L2.out _).mono ?_
      rintro e w4 ⟨rfl, hb4⟩
      go_wp2
      exact HR.out _ _ ⟨by rw [HE'.out]; rfl, ((hb1.trans (hb2.mono hb1.size)).trans (hb3.mono (Nat.le_trans hb1.size hb2.size))).trans (hb4.mono (Nat.le_trans hb1.size (Nat.le_trans hb2.size hb3.size)))⟩
    · have h1' : (ea == 0) = true := by simp [h1]
      have h2' : (eb == 0) = false := by simp [h2]
      have HE' : Hid (r = false) := by rw [HE.out, h1', h2']; exact Lib.hid (by simp)
      clear h1 h2
      go_enter Try.func99, Try.ntmps99
      go_wp2_with fail
      refine (C1.out _).mono ?_
      rintro e w1 ⟨rfl, hb1⟩
      go_wp2_with fail
      refine (C2.out _).mono ?_
      rintro e w2 ⟨rfl, hb2⟩
      go_wp2
      exact HR.out _ _ ⟨by rw [HE'.out]; rfl, hb1.trans (hb2.mono hb1.size)⟩
  · have h1' : (ea == 0) = false := by simp [h1]
    have HE' : Hid (r = false) := by rw [HE.out, h1']; exact Lib.hid (by simp)
    clear h1
    go_enter Try.func99, Try.ntmps99
    go_wp2_with fail
    refine (C1.out _).mono ?_
    rintro e w1 ⟨rfl, hb1⟩
    go_wp2
    exact HR.out _ _ ⟨by rw [HE'.out]; rfl, hb1⟩
end Go.Proofs.Ytpijbdddegbjbaa
