/- ostiarylaw22.SetsKnown returns true. No condition. -/
import Derived.Test.YtpijbdddegbjbaaPart3
namespace Go.Proofs.Ytpijbdddegbjbaa
open Go.RowKit Go.Proofs Go.Sort
def dXZ : List ByteArray := [sb [120], sb [122]]
def dZX : List ByteArray := [sb [122], sb [120]]
def kS : SetV := (nA, 1, 1, 3, dXZ)
def kT : SetV := (nBig, 1, 1, 9, dZX)
def kU : SetV := (nA, 2, 1, 3, dXZ)
theorem strs_two (W W' : World) (a b : ByteArray) (h : Below (W.heap.size + 1) (W.alloc (.cells #[.string a, .string b] 9)) W') : StrsAt W' (.slice (some ⟨W.heap.size, 0, none⟩) 2 2) [a, b] := by
  have hx := bel_blk h (by omega) (blk_new W (.cells #[.string a, .string b] 9))
  refine ⟨by simp, W.heap.size, 0, 2, rfl, fun j hj => ?_⟩
  have : j = 0 ∨ j = 1 := by simp at hj; omega
  rcases this with rfl | rfl
  · exact blk_cell hx 0
  · exact blk_cell hx 1
theorem same_st : sameSet kS kT = true := by
  have e : sortB dXZ = sortB dZX := sortB_perm (List.Perm.swap _ _ [])
  have l1 : labErr (bl nA) = 0 := lab_one _ _ (by decide)
  have l2 : labErr (bl nBig) = 0 := lab_one _ _ (by decide)
  have l3 : lowerL (bl nA) = lowerL (bl nBig) := by decide
  simp only [sameSet, sameN, kS, kT, l1, l2, l3, e]
  decide
theorem same_su : sameSet kS kU = false := by simp [sameSet, kS, kU]
theorem recs_s : recsOf kS = [(nA, 1, 1, 3, sb [120]), (nA, 1, 1, 3, sb [122])] := rfl
theorem recs_two (W W' : World) (h : Below (W.heap.size + 1) (W.alloc (.cells #[.string nA, .int .i64 1, .int .i64 1, .int .i64 3, .string (sb [120]), .string nA, .int .i64 1, .int .i64 1, .int .i64 3, .string (sb [122])] 43)) W') : RecsAt W' (.slice (some ⟨W.heap.size, 0, none⟩) 2 2) (recsOf kS) := by
  have hx := bel_blk h (by omega) (blk_new W (.cells #[.string nA, .int .i64 1, .int .i64 1, .int .i64 3, .string (sb [120]), .string nA, .int .i64 1, .int .i64 1, .int .i64 3, .string (sb [122])] 43))
  rw [recs_s]
  refine ⟨_, 2, rfl, fun j hj => ⟨W.heap.size, 0, rfl, ?_⟩⟩
  have : j = 0 ∨ j = 1 := by simp at hj; omega
  rcases this with rfl | rfl
  · exact ⟨blk_cell hx 0, blk_cell hx 1, blk_cell hx 2, blk_cell hx 3, blk_cell hx 4⟩
  · exact ⟨blk_cell hx 5, blk_cell hx 6, blk_cell hx 7, blk_cell hx 8, blk_cell hx 9⟩
theorem fieldTtl (n : ByteArray) (ty c ttl : Int) (ao : Option Addr) (m k : Nat) (w : World) : (Instr.field 46 (.agg #[.string n, .int .i64 ty, .int .i64 c, .int .i64 ttl, .slice ao m k]) 3).run Try.prog w = .ok (.int .i64 ttl) w := by kernel_rfl
theorem better_ok (x y : Int) (o : Bool) (w : World) : Calls Try.prog 105 #[.int .i64 x, .int .i64 y, .bool o] w fun e w' => e = .returned (.bool (o || decide (x ≤ y))) ∧ Below w.heap.size w w' := by
  refine hideR fun R' HR => ?_
  cases o
  all_goals
    go_enter Try.func105, Try.ntmps105
    go_wp2
    exact HR.out _ _ ⟨by simp, Below.refl _ _⟩
set_option maxRecDepth 100000 in
set_option maxHeartbeats 2000000 in
theorem known22_ok (w : World) : Calls Try.prog 32 #[] w fun e w' => e = .returned (.bool true) ∧ Below w.heap.size w w' := by
  refine hideR fun R' HR => ?_
  go_enter Try.func32, Try.ntmps32
  go_wp2_with fail
  refine (aw_ok _).mono ?_
  rintro e w1 ⟨rfl, b1⟩
  go_wp2_with fail
  have hs1 : Below (w1.heap.size + 1) (w1.alloc (.cells #[.string ⟨#[120]⟩, .string ⟨#[122]⟩] 9)) ((w1.alloc (.cells #[.string ⟨#[120]⟩, .string ⟨#[122]⟩] 9)).alloc (.cells #[.string nA, .int .i64 1, .int .i64 1, .int .i64 3, .slice (some ⟨w1.heap.size, 0, none⟩) 2 2] 46)) := (Below.refl _ _).alloc (by simp) _
  have hx1 : ((w1.alloc (.cells #[.string ⟨#[120]⟩, .string ⟨#[122]⟩] 9)).alloc (.cells #[.string nA, .int .i64 1, .int .i64 1, .int .i64 3, .slice (some ⟨w1.heap.size, 0, none⟩) 2 2] 46)).heap[w1.heap.size + 1]? = some (.cells #[.string nA, .int .i64 1, .int .i64 1, .int .i64 3, .slice (some ⟨w1.heap.size, 0, none⟩) 2 2] 46 (0, 0)) := by
    have := blk_new (w1.alloc (.cells #[.string ⟨#[120]⟩, .string ⟨#[122]⟩] 9)) (.cells #[.string nA, .int .i64 1, .int .i64 1, .int .i64 3, .slice (some ⟨w1.heap.size, 0, none⟩) 2 2] 46)
    rwa [World.size_alloc] at this
  have hz1 : ((w1.alloc (.cells #[.string ⟨#[120]⟩, .string ⟨#[122]⟩] 9)).alloc (.cells #[.string nA, .int .i64 1, .int .i64 1, .int .i64 3, .slice (some ⟨w1.heap.size, 0, none⟩) 2 2] 46)).heap.size = w1.heap.size + 2 := by simp
  have hb1 : Below w.heap.size w ((w1.alloc (.cells #[.string ⟨#[120]⟩, .string ⟨#[122]⟩] 9)).alloc (.cells #[.string nA, .int .i64 1, .int .i64 1, .int .i64 3, .slice (some ⟨w1.heap.size, 0, none⟩) 2 2] 46)) := (b1.alloc b1.size _).alloc (by have := b1.size; simp; omega) _
  refine (bigw_ok _).mono ?_
  rintro e w2 ⟨rfl, b2⟩
  have hS2 := strs_two w1 w2 _ _ (hs1.trans (b2.mono (by rw [hz1]; omega)))
  have hX2 := bel_blk b2 (by rw [hz1]; omega) hx1
  have hB2 := hb1.trans (b2.mono hb1.size)
  have hz2 : w1.heap.size + 2 ≤ w2.heap.size := by have := b2.size; rw [hz1] at this; exact this
  clear hs1 hx1 hb1 hz1 b2
  have HS2 := Lib.hid hS2
  have HX2 := Lib.hid hX2
  have HB2 := Lib.hid hB2
  have p0 := blk_cell hX2 0
  have p1 := blk_cell hX2 1
  have p2 := blk_cell hX2 2
  have p3 := blk_cell hX2 3
  have p4 := blk_cell hX2 4
  clear hS2 hX2 hB2
  have q0 := cell_alloc (o := (.cells #[.string nBig, .int .i64 1, .int .i64 1, .int .i64 9, .slice (some ⟨w2.heap.size, 0, none⟩) 2 2] 46)) (cell_alloc (o := (.cells #[.string ⟨#[122]⟩, .string ⟨#[120]⟩] 9)) p0)
  have q1 := cell_alloc (o := (.cells #[.string nBig, .int .i64 1, .int .i64 1, .int .i64 9, .slice (some ⟨w2.heap.size, 0, none⟩) 2 2] 46)) (cell_alloc (o := (.cells #[.string ⟨#[122]⟩, .string ⟨#[120]⟩] 9)) p1)
  have q2 := cell_alloc (o := (.cells #[.string nBig, .int .i64 1, .int .i64 1, .int .i64 9, .slice (some ⟨w2.heap.size, 0, none⟩) 2 2] 46)) (cell_alloc (o := (.cells #[.string ⟨#[122]⟩, .string ⟨#[120]⟩] 9)) p2)
  have q3 := cell_alloc (o := (.cells #[.string nBig, .int .i64 1, .int .i64 1, .int .i64 9, .slice (some ⟨w2.heap.size, 0, none⟩) 2 2] 46)) (cell_alloc (o := (.cells #[.string ⟨#[122]⟩, .string ⟨#[120]⟩] 9)) p3)
  have q4 := cell_alloc (o := (.cells #[.string nBig, .int .i64 1, .int .i64 1, .int .i64 9, .slice (some ⟨w2.heap.size, 0, none⟩) 2 2] 46)) (cell_alloc (o := (.cells #[.string ⟨#[122]⟩, .string ⟨#[120]⟩] 9)) p4)
  have hT0 : ((w2.alloc (.cells #[.string ⟨#[122]⟩, .string ⟨#[120]⟩] 9)).alloc (.cells #[.string nBig, .int .i64 1, .int .i64 1, .int .i64 9, .slice (some ⟨w2.heap.size, 0, none⟩) 2 2] 46)).heap[w2.heap.size + 1]? = some (.cells #[.string nBig, .int .i64 1, .int .i64 1, .int .i64 9, .slice (some ⟨w2.heap.size, 0, none⟩) 2 2] 46 (0, 0)) := by
    have := blk_new (w2.alloc (.cells #[.string ⟨#[122]⟩, .string ⟨#[120]⟩] 9)) (.cells #[.string nBig, .int .i64 1, .int .i64 1, .int .i64 9, .slice (some ⟨w2.heap.size, 0, none⟩) 2 2] 46)
    rwa [World.size_alloc] at this
  have hU5 : (((w2.alloc (.cells #[.string ⟨#[122]⟩, .string ⟨#[120]⟩] 9)).alloc (.cells #[.string nBig, .int .i64 1, .int .i64 1, .int .i64 9, .slice (some ⟨w2.heap.size, 0, none⟩) 2 2] 46)).alloc (.cells #[.string nA, .int .i64 2, .int .i64 1, .int .i64 3, .slice (some ⟨w1.heap.size, 0, none⟩) 2 2] 46)).heap[w2.heap.size + 1 + 1]? = some (.cells #[.string nA, .int .i64 2, .int .i64 1, .int .i64 3, .slice (some ⟨w1.heap.size, 0, none⟩) 2 2] 46 (0, 0)) := by
    have := blk_new ((w2.alloc (.cells #[.string ⟨#[122]⟩, .string ⟨#[120]⟩] 9)).alloc (.cells #[.string nBig, .int .i64 1, .int .i64 1, .int .i64 9, .slice (some ⟨w2.heap.size, 0, none⟩) 2 2] 46)) (.cells #[.string nA, .int .i64 2, .int .i64 1, .int .i64 3, .slice (some ⟨w1.heap.size, 0, none⟩) 2 2] 46)
    rwa [World.size_alloc, World.size_alloc] at this
  have hB5 : Below w2.heap.size w2 (((w2.alloc (.cells #[.string ⟨#[122]⟩, .string ⟨#[120]⟩] 9)).alloc (.cells #[.string nBig, .int .i64 1, .int .i64 1, .int .i64 9, .slice (some ⟨w2.heap.size, 0, none⟩) 2 2] 46)).alloc (.cells #[.string nA, .int .i64 2, .int .i64 1, .int .i64 3, .slice (some ⟨w1.heap.size, 0, none⟩) 2 2] 46)) := (((Below.refl _ _).alloc (Nat.le_refl _) _).alloc (by simp) _).alloc (by simp; omega) _
  have hBA : Below (w2.heap.size + 1) (w2.alloc (.cells #[.string ⟨#[122]⟩, .string ⟨#[120]⟩] 9)) (((w2.alloc (.cells #[.string ⟨#[122]⟩, .string ⟨#[120]⟩] 9)).alloc (.cells #[.string nBig, .int .i64 1, .int .i64 1, .int .i64 9, .slice (some ⟨w2.heap.size, 0, none⟩) 2 2] 46)).alloc (.cells #[.string nA, .int .i64 2, .int .i64 1, .int .i64 3, .slice (some ⟨w1.heap.size, 0, none⟩) 2 2] 46)) := ((Below.refl _ _).alloc (by simp) _).alloc (by simp) _
  have hBT : Below (w2.heap.size + 1 + 1) ((w2.alloc (.cells #[.string ⟨#[122]⟩, .string ⟨#[120]⟩] 9)).alloc (.cells #[.string nBig, .int .i64 1, .int .i64 1, .int .i64 9, .slice (some ⟨w2.heap.size, 0, none⟩) 2 2] 46)) (((w2.alloc (.cells #[.string ⟨#[122]⟩, .string ⟨#[120]⟩] 9)).alloc (.cells #[.string nBig, .int .i64 1, .int .i64 1, .int .i64 9, .slice (some ⟨w2.heap.size, 0, none⟩) 2 2] 46)).alloc (.cells #[.string nA, .int .i64 2, .int .i64 1, .int .i64 3, .slice (some ⟨w1.heap.size, 0, none⟩) 2 2] 46)) := (Below.refl _ _).alloc (by simp) _
  have hT5 := bel_blk hBT (by omega) hT0
  have hST5 := strs_two w2 (((w2.alloc (.cells #[.string ⟨#[122]⟩, .string ⟨#[120]⟩] 9)).alloc (.cells #[.string nBig, .int .i64 1, .int .i64 1, .int .i64 9, .slice (some ⟨w2.heap.size, 0, none⟩) 2 2] 46)).alloc (.cells #[.string nA, .int .i64 2, .int .i64 1, .int .i64 3, .slice (some ⟨w1.heap.size, 0, none⟩) 2 2] 46)) _ _ hBA
  have hS5 := bel_blk hB5 (by omega) HX2.out
  have hSS5 := HS2.out.below hB5
  have hw5 := HB2.out.trans (hB5.mono HB2.out.size)
  have HS5 := Lib.hid hS5
  have HT5 := Lib.hid hT5
  have HU5 := Lib.hid hU5
  have HSS := Lib.hid hSS5
  have HST := Lib.hid hST5
  have HW5 := Lib.hid hw5
  clear hT0 hB5 hBA hBT hT5 hST5 hS5 hSS5 hU5 hw5 p0 p1 p2 p3 p4
  go_upto_region 5 with fail
  generalize (((w2.alloc (.cells #[.string ⟨#[122]⟩, .string ⟨#[120]⟩] 9)).alloc (.cells #[.string nBig, .int .i64 1, .int .i64 1, .int .i64 9, .slice (some ⟨w2.heap.size, 0, none⟩) 2 2] 46)).alloc (.cells #[.string nA, .int .i64 2, .int .i64 1, .int .i64 3, .slice (some ⟨w1.heap.size, 0, none⟩) 2 2] 46)) = W5 at HS5 HT5 HU5 HSS HST HW5 ⊢
  clear q0 q1 q2 q3 q4
  have p0 := blk_cell HS5.out 0
  have p1 := blk_cell HS5.out 1
  have p2 := blk_cell HS5.out 2
  have p3 := blk_cell HS5.out 3
  have p4 := blk_cell HS5.out 4
  go_wp2_with fail
  refine (recs_ok kS (.slice (some ⟨w1.heap.size, 0, none⟩) 2 2) W5 HSS.out (by decide)).mono ?_
  rintro e w3 ⟨v3, rfl, hR3, b3⟩
  clear p0 p1 p2 p3 p4
  go_wp2_with fail
  refine (aw_ok _).mono ?_
  rintro e w4 ⟨rfl, b4⟩
  have hb4 := b3.trans (b4.mono b3.size)
  have hR4 := hR3.below b4
  go_wp2_with fail
  refine (rec22_ok _ _ _ _ _).mono ?_
  rintro e w5 ⟨rfl, b5⟩
  have hb5 := hb4.trans (b5.mono hb4.size)
  have hR5 := hR4.below b5
  go_wp2_with fail
  refine (aw_ok _).mono ?_
  rintro e w6 ⟨rfl, b6⟩
  have hb6 := hb5.trans (b6.mono hb5.size)
  have hR6 := hR5.below b6
  go_wp2_with fail
  refine (rec22_ok _ _ _ _ _).mono ?_
  rintro e w7 ⟨rfl, b7⟩
  have hb7 := hb6.trans (b7.mono hb6.size)
  have hR7 := hR6.below b7
  clear hR3 hR4 hR5 hR6 b3 b4 b5 b6 b7 hb4 hb5 hb6
  have hb8 := hb7.alloc hb7.size (.cells #[.string nA, .int .i64 1, .int .i64 1, .int .i64 3, .string ⟨#[120]⟩, .string nA, .int .i64 1, .int .i64 1, .int .i64 3, .string ⟨#[122]⟩] 43)
  go_wp2_with fail
  refine (sameRecs_eq _ _ (recsOf kS) _ (hR7.below ((Below.refl _ _).alloc (Nat.le_refl _) _)) (recs_two w7 _ (Below.refl _ _)) (by decide)).mono ?_
  rintro e w9 ⟨rfl, b9⟩
  have hb9 := hb8.trans (b9.mono hb8.size)
  clear hb7 hb8 hR7 b9
  have sx := bel_blk hb9 (blk_lt HS5.out) HS5.out
  have s0 := blk_cell sx 0
  have s1 := blk_cell sx 1
  have s2 := blk_cell sx 2
  have s3 := blk_cell sx 3
  have s4 := blk_cell sx 4
  have tx := bel_blk hb9 (blk_lt HT5.out) HT5.out
  have t0 := blk_cell tx 0
  have t1 := blk_cell tx 1
  have t2 := blk_cell tx 2
  have t3 := blk_cell tx 3
  have t4 := blk_cell tx 4
  have ux := bel_blk hb9 (blk_lt HU5.out) HU5.out
  have u0 := blk_cell ux 0
  have u1 := blk_cell ux 1
  have u2 := blk_cell ux 2
  have u3 := blk_cell ux 3
  have u4 := blk_cell ux 4
  have hST9 := HST.out.below hb9
  have hSS9 := HSS.out.below hb9
  have hq := setSame_ok kS kT (.slice (some ⟨w1.heap.size, 0, none⟩) 2 2) (.slice (some ⟨w2.heap.size, 0, none⟩) 2 2) w9 (by decide) (by decide) hSS9 hST9 (by decide) (by decide)
  rw [same_st] at hq
  have HQ := Lib.hid hq
  clear hq hST9 hSS9 sx tx ux
  go_wp2_with fail
  refine HQ.out.mono ?_
  rintro e w10 ⟨rfl, b10⟩
  have hb10 := hb9.trans (b10.mono hb9.size)
  clear s0 s1 s2 s3 s4 t0 t1 t2 t3 t4 u0 u1 u2 u3 u4 HQ b10 hb9
  have sx := bel_blk hb10 (blk_lt HS5.out) HS5.out
  have s0 := blk_cell sx 0
  have s1 := blk_cell sx 1
  have s2 := blk_cell sx 2
  have s3 := blk_cell sx 3
  have s4 := blk_cell sx 4
  have ux := bel_blk hb10 (blk_lt HU5.out) HU5.out
  have u0 := blk_cell ux 0
  have u1 := blk_cell ux 1
  have u2 := blk_cell ux 2
  have u3 := blk_cell ux 3
  have u4 := blk_cell ux 4
  have hSS10 := HSS.out.below hb10
  have hq := setSame_ok kS kU (.slice (some ⟨w1.heap.size, 0, none⟩) 2 2) (.slice (some ⟨w1.heap.size, 0, none⟩) 2 2) w10 (by decide) (by decide) hSS10 hSS10 (by decide) (by decide)
  rw [same_su] at hq
  have HQ := Lib.hid hq
  clear hq hSS10 sx ux
  go_wp2_with fail
  refine HQ.out.mono ?_
  rintro e w11 ⟨rfl, b11⟩
  have hb11 := hb10.trans (b11.mono hb10.size)
  clear s0 s1 s2 s3 s4 u0 u1 u2 u3 u4 HQ b11 hb10
  go_wp2_with fail
  refine (awake22_ok _).mono ?_
  rintro e w12 ⟨rfl, b12⟩
  have hb12 := hb11.trans (b12.mono hb11.size)
  clear hb11 b12
  have sx := bel_blk hb12 (blk_lt HS5.out) HS5.out
  have s0 := blk_cell sx 0
  have s1 := blk_cell sx 1
  have s2 := blk_cell sx 2
  have s3 := blk_cell sx 3
  have s4 := blk_cell sx 4
  clear sx
  go_wp2_with fail
  refine (less_ok nA 1 1 dXZ (.slice (some ⟨w1.heap.size, 0, none⟩) 2 2) w12 (HSS.out.below hb12) (by decide)).mono ?_
  rintro e w13 ⟨⟨g1, c1, rfl⟩, b13⟩
  have hb13 := hb12.trans (b13.mono hb12.size)
  clear hb12 b13 s0 s1 s2 s3 s4
  have hfd := fun (w : World) => fieldTtl nA 1 1 0 (some ⟨g1, 0, none⟩) dXZ.length c1 w
  go_wp2_with fail
  clear hfd
  refine (better_ok 3 2 false _).mono ?_
  rintro e w14 ⟨rfl, b14⟩
  have hb14 := hb13.trans (b14.mono hb13.size)
  simp only [Bool.false_or, show decide ((3 : Int) ≤ 2) = false from rfl]
  go_wp2_with fail
  refine (better_ok 3 2 true _).mono ?_
  rintro e w15 ⟨rfl, b15⟩
  have hb15 := hb14.trans (b15.mono hb14.size)
  simp only [Bool.true_or]
  go_wp2_with fail
  refine (better_ok 2 2 false _).mono ?_
  rintro e w16 ⟨rfl, b16⟩
  have hb16 := hb15.trans (b16.mono hb15.size)
  simp only [Bool.false_or, show decide ((2 : Int) ≤ 2) = true from rfl]
  go_wp2_with fail
  refine (least_ok (.slice none 0 0) [] _ ⟨none, 0, fun _ => .slice none 0 0, rfl, fun i hi => by simp at hi⟩ (by simp)).mono ?_
  rintro e w17 ⟨rfl, b17⟩
  have hb17 := hb16.trans (b17.mono hb16.size)
  have hl0 : leastS [] = 0 := rfl
  rw [hl0]
  go_wp2_with fail
  exact HR.out _ _ ⟨rfl, HW5.out.trans (hb17.mono HW5.out.size)⟩
end Go.Proofs.Ytpijbdddegbjbaa
