/- The walk of ostiarylaw20.TableTurns. No condition. -/
import Derived.Test.YtpijbdddegbjbaaTabP
namespace Go.Proofs.Ytpijbdddegbjbaa
open Go.RowKit Go.Proofs Go.Sort
/-- Pick, at a number that is above 0. -/
def pickM (x n : Int) : Int := if x.tmod n < 0 then x.tmod n + n else x.tmod n
theorem pickM_lt (x n : Int) (h : 0 < n) : 0 ≤ pickM x n ∧ pickM x n < n := by
  unfold pickM
  have h1 := Int.tmod_lt_of_pos x h
  have h2 := Int.lt_tmod_of_pos x h
  split <;> omega
theorem pick_ok (x n : Int) (w : World) (hn : 1 ≤ n) (hn2 : n ≤ 1000000) : Calls Try.prog 28 #[.int .i64 x, .int .i64 n] w fun e w' => e = .returned (.int .i64 (pickM x n)) ∧ w = w' := by
  have h0 : (n == 0) = false := beq_eq_false_iff_ne.2 (by omega)
  have hw : IntKind.i64.wrap (x.tmod n) = x.tmod n := IntWalk.i64_in _ (by have := Int.lt_tmod_of_pos x (show 0 < n by omega); have := Int.tmod_lt_of_pos x (show 0 < n by omega); omega)
  have h1 := Int.tmod_lt_of_pos x (show 0 < n by omega)
  have h2 := Int.lt_tmod_of_pos x (show 0 < n by omega)
  unfold pickM
  by_cases hs : x.tmod n < 0
  · rw [if_pos hs]
    go_enter Try.func28, Try.ntmps28
    go_wp2
    go_ret
    exact ⟨rfl, rfl⟩
  · rw [if_neg hs]
    go_enter Try.func28, Try.ntmps28
    go_wp2
    go_ret
    exact ⟨rfl, rfl⟩
theorem new_two (w : World) : Calls Try.prog 37 #[.int .i64 2] w fun e w' => ∃ tb mb, e = .returned (.tuple #[.pointer (some ⟨tb, 0, none⟩), .int .i64 0]) ∧ TableAt w' tb mb 2 [] ∧ w.heap.size ≤ tb ∧ w.heap.size ≤ mb ∧ Below w.heap.size w w' := new_ok 2 w (by decide) (by decide)
theorem below_step {w w' w'' : World} {mb : Nat} (h : Below w.heap.size w w') (hg : w'.grownBy w'' (some mb)) (hB : w.heap.size ≤ mb) : Below w.heap.size w w'' :=
  ⟨hg.os.trans h.os, hg.tape.trans h.tape, hg.output.trans h.output, Nat.le_trans h.size hg.size, fun k hk => (hg.block k (Nat.lt_of_lt_of_le hk h.size) (fun e => by simp at e; omega)).trans (h.block k hk)⟩
theorem awk1 : touchM 2 [] 5 10 = ((0, false, 0), [(5, (10, false))]) := by decide
theorem awk2 : touchM 2 [(5, (10, false))] 3 12 = ((0, false, 0), [(5, (10, false)), (3, (12, false))]) := by decide
theorem awk3 : touchM 2 [(5, (10, false)), (3, (12, false))] 4 13 = ((0, false, 8), [(5, (10, false)), (3, (12, false))]) := by
  have h : goesF [((5 : Int), ((10 : Int), false)), (3, (12, false))] = none := by
    rw [goesF_none]
    decide
  have h2 : mget [((5 : Int), ((10 : Int), false)), (3, (12, false))] 4 = none := by decide
  unfold touchM
  rw [h, h2]
  simp
set_option maxRecDepth 100000 in
set_option maxHeartbeats 1000000 in
theorem awake20_ok (w : World) : Calls Try.prog 36 #[] w fun e w' => e = .returned (.bool true) ∧ Below w.heap.size w w' := by
  have hnew := new_two w
  refine hideR fun R' HR => ?_
  go_enter Try.func36, Try.ntmps36
  go_wp2_with fail
  refine hnew.mono ?_
  rintro e w1 ⟨tb, mb, rfl, h1, htb, hmb, hb1⟩
  have t1 := touch_ok tb mb 2 [] 5 10 w1 h1 (by decide) (by intro p hp; simp at hp) (by decide)
  rw [awk1] at t1
  simp only [touchIs] at t1
  go_wp2_with fail
  refine t1.mono ?_
  rintro e w2 ⟨rfl, h2, hg2⟩
  have hb2 := below_step hb1 hg2 hmb
  have t2 := touch_ok tb mb 2 [(5, (10, false))] 3 12 w2 h2 (by decide) (by intro p hp; simp at hp; subst hp; decide) (by decide)
  rw [awk2] at t2
  simp only [touchIs] at t2
  go_wp2_with fail
  refine t2.mono ?_
  rintro e w3 ⟨rfl, h3, hg3⟩
  have hb3 := below_step hb2 hg3 hmb
  have t3 := touch_ok tb mb 2 [(5, (10, false)), (3, (12, false))] 4 13 w3 h3 (by decide) (by intro p hp; simp at hp; rcases hp with rfl | rfl <;> decide) (by decide)
  rw [awk3] at t3
  simp only [touchIs] at t3
  go_wp2_with fail
  refine t3.mono ?_
  rintro e w4 ⟨rfl, h4, hg4⟩
  have hb4 := below_step hb3 hg4 hmb
  have t4 := len_ok tb mb 2 [(5, (10, false)), (3, (12, false))] w4 h4 (by decide)
  go_wp2_with (go_at_call 40; refine t4.mono ?_; rintro e w5 ⟨rfl, rfl⟩)
  exact HR.out _ _ ⟨rfl, hb4⟩
/-- The table behind so many clients. -/
def turnsT (m i : Nat) : Tab := ((List.range i).drop (i - m)).map fun (j : Nat) => ((1000 : Int) - j, ((j : Int), true))
theorem turnsT_keys (m i : Nat) : (turnsT m i).map (·.1) = ((List.range i).drop (i - m)).map fun (j : Nat) => (1000 : Int) - j := by
  unfold turnsT
  rw [List.map_map]
  rfl
theorem mem_drop_range {a i j : Nat} : j ∈ (List.range i).drop a ↔ a ≤ j ∧ j < i := by
  rw [List.range_eq_range', List.drop_range', List.mem_range'_1]
  omega
theorem turnsT_mem (m i : Nat) (k : Int) : k ∈ (turnsT m i).map (·.1) ↔ ∃ j : Nat, i - m ≤ j ∧ j < i ∧ k = 1000 - j := by
  rw [turnsT_keys, List.mem_map]
  constructor
  · rintro ⟨j, hj, rfl⟩
    rw [mem_drop_range] at hj
    exact ⟨j, hj.1, hj.2, rfl⟩
  · rintro ⟨j, h1, h2, rfl⟩
    exact ⟨j, mem_drop_range.2 ⟨h1, h2⟩, rfl⟩
theorem turnsT_nodup (m i : Nat) : ((turnsT m i).map (·.1)).Nodup := by
  rw [turnsT_keys]
  apply List.Pairwise.map (R := fun a b => a ≠ b)
  · intro a b h h'
    omega
  · exact (List.nodup_range.sublist (List.drop_sublist _ _))
theorem turnsT_cl (m i j : Nat) (h1 : i - m ≤ j) (h2 : j < i) : clOf (turnsT m i) (1000 - j) = ((j : Int), true) :=
  clOf_of (mget_of_mem (turnsT_nodup m i) (by
    unfold turnsT
    exact List.mem_map.2 ⟨j, mem_drop_range.2 ⟨h1, h2⟩, rfl⟩))
theorem turnsT_len (m i : Nat) : (turnsT m i).length = min m i := by
  simp [turnsT]
  omega
theorem turnsT_none (m i : Nat) : mget (turnsT m i) (1000 - (i : Int)) = none := by
  rw [mget_none, turnsT_mem]
  rintro ⟨j, _, h2, h3⟩
  omega
theorem turnsT_who (m i : Nat) (h1 : 1 ≤ m) (h : m ≤ i) : goesF (turnsT m i) = some (1000 - ((i - m : Nat) : Int)) := by
  rw [goesF_some]
  refine ⟨(turnsT_mem m i _).2 ⟨i - m, Nat.le_refl _, by omega, rfl⟩, by rw [turnsT_cl m i (i - m) (Nat.le_refl _) (by omega)], ?_⟩
  intro y hy _
  obtain ⟨j, h2, h3, rfl⟩ := (turnsT_mem m i y).1 hy
  unfold Ahead
  rw [turnsT_cl m i j h2 h3, turnsT_cl m i (i - m) (Nat.le_refl _) (by omega)]
  simp only
  omega
/-- The table between Touch and Idle. -/
def turnsU (m i : Nat) : Tab := ((List.range i).drop (i + 1 - m)).map (fun (j : Nat) => ((1000 : Int) - j, ((j : Int), true))) ++ [((1000 : Int) - i, ((i : Int), false))]
theorem mdel_first (m i : Nat) (h1 : 1 ≤ m) (h : m ≤ i) : mdel (turnsT m i) (1000 - ((i - m : Nat) : Int)) = ((List.range i).drop (i + 1 - m)).map (fun (j : Nat) => ((1000 : Int) - j, ((j : Int), true))) := by
  unfold mdel turnsT
  rw [List.filter_map]
  congr 1
  have e : (List.range i).drop (i - m) = (i - m) :: (List.range i).drop (i + 1 - m) := by
    rw [List.drop_eq_getElem_cons (by simp; omega)]
    simp
    congr 1
    omega
  rw [e, List.filter_cons]
  simp only [Function.comp]
  simp only [decide_true, Bool.not_true, Bool.false_eq_true, if_false]
  rw [List.filter_eq_self]
  intro j hj
  rw [mem_drop_range] at hj
  simp
  omega
theorem turns_touch (m i : Nat) (h1 : 1 ≤ m) (hi : i < 100) : touchM m (turnsT m i) (1000 - (i : Int)) i = (if i < m then (0, false, 0) else (1000 - ((i - m : Nat) : Int), true, 0), turnsU m i) := by
  unfold touchM
  rw [if_neg (by omega), turnsT_none]
  simp only [turnsT_len]
  by_cases h : i < m
  · rw [if_pos (by omega), if_pos h]
    congr 1
    rw [mput_new _ (turnsT_none m i)]
    unfold turnsU turnsT
    congr 2
    rw [show i - m = 0 by omega, show i + 1 - m = 0 by omega]
  · rw [if_neg (by omega), if_neg h, turnsT_who m i h1 (by omega)]
    dsimp only
    congr 1
    rw [mdel_first m i h1 (by omega), mput_new]
    · rfl
    · rw [mget_none]
      intro hk
      rw [List.map_map, List.mem_map] at hk
      obtain ⟨j, hj, he⟩ := hk
      rw [mem_drop_range] at hj
      simp only [Function.comp] at he
      omega
theorem turnsU_get (m i : Nat) : mget (turnsU m i) (1000 - (i : Int)) = some ((i : Int), false) := by
  unfold mget turnsU
  rw [List.find?_append]
  have : List.find? (fun (p : Int × Int × Bool) => decide (p.1 = 1000 - (i : Int))) (((List.range i).drop (i + 1 - m)).map (fun (j : Nat) => ((1000 : Int) - j, ((j : Int), true)))) = none := by
    rw [List.find?_eq_none]
    intro p hp
    rw [List.mem_map] at hp
    obtain ⟨j, hj, rfl⟩ := hp
    rw [mem_drop_range] at hj
    simp
    omega
  rw [this]
  simp
theorem turnsU_put (m i : Nat) (h1 : 1 ≤ m) : mput (turnsU m i) (1000 - (i : Int)) ((i : Int), true) = turnsT m (i + 1) := by
  unfold mput
  rw [if_pos (by simp [turnsU])]
  unfold turnsU turnsT
  rw [List.map_append, List.map_map, List.range_succ]
  have e : (List.range i ++ [i]).drop (i + 1 - m) = (List.range i).drop (i + 1 - m) ++ [i] := by
    rw [List.drop_append_of_le_length (by simp; omega)]
  rw [e, List.map_append]
  congr 1
  · apply List.map_congr_left
    intro j hj
    rw [mem_drop_range] at hj
    simp only [Function.comp]
    rw [if_neg (by omega)]
  · simp
theorem turnsT_wf (m i : Nat) (hi : i ≤ 100) : IntsWf (turnsT m i) := by
  intro p hp
  have hk := List.mem_map_of_mem (f := (·.1)) hp
  obtain ⟨j, h2, h3, h4⟩ := (turnsT_mem m i p.1).1 hk
  rw [h4]
  have : (Lit.int .i64 (1000 - (j : Int))).wf = (decide (-9223372036854775808 ≤ (1000 : Int) - j) && decide ((1000 : Int) - j ≤ 9223372036854775807)) := rfl
  rw [this]
  simp
  omega
theorem turnsT_zero (m : Nat) : turnsT m 0 = [] := by simp [turnsT]
set_option maxRecDepth 100000 in
set_option maxHeartbeats 2000000 in
theorem turns_ok (a0 a1 : Int) (w : World) : Calls Try.prog 6 #[.int .i64 a0, .int .i64 a1] w fun e w' => e = .returned (.bool true) ∧ Below w.heap.size w w' := by
  obtain ⟨p0, p1⟩ := pickM_lt a0 30 (by decide)
  obtain ⟨q0, q1⟩ := pickM_lt a1 100 (by decide)
  have hp := fun w => pick_ok a0 30 w (by decide) (by decide)
  have hq := fun w => pick_ok a1 100 w (by decide) (by decide)
  have hA := awake20_ok w
  obtain ⟨m, hm⟩ : ∃ m : Nat, (m : Int) = 1 + pickM a0 30 := ⟨(1 + pickM a0 30).toNat, by omega⟩
  obtain ⟨n, hn⟩ : ∃ n : Nat, (n : Int) = pickM a1 100 := ⟨(pickM a1 100).toNat, by omega⟩
  rw [← hn] at hq
  have hpm : pickM a0 30 = (m : Int) - 1 := by omega
  rw [hpm] at hp
  rw [hpm] at p0 p1
  rw [← hn] at q0 q1
  clear hm hn hpm
  have m0 : 1 ≤ m := by omega
  have m1 : m ≤ 30 := by omega
  have n1 : n < 100 := by omega
  clear p0 p1 q0 q1
  refine hideR fun R' HR => ?_
  go_enter Try.func6, Try.ntmps6
  have HP := Lib.hid hp
  have HQ := Lib.hid hq
  clear hp hq
  go_wp2_with fail
  refine hA.mono ?_
  rintro e w1 ⟨rfl, hb1⟩
  clear hA
  go_wp2_with fail
  refine (HP.out _).mono ?_
  rintro e w' ⟨rfl, rfl⟩
  go_wp2_with fail
  rw [show (1 + ((m : Int) - 1)) = m by omega]
  refine (HQ.out _).mono ?_
  rintro e w' ⟨rfl, rfl⟩
  clear HP HQ
  go_wp2_with fail
  refine (new_ok m w1 (by omega) (by omega)).mono ?_
  rintro e w2 ⟨tb, mb, rfl, h2, htb, hmb, hb2⟩
  have HB := Lib.hid (hb1.trans (hb2.mono hb1.size))
  have HT := Lib.hid h2
  have hmb' : w.heap.size ≤ mb := Nat.le_trans hb1.size hmb
  clear hb1 hb2 h2
  rw [← turnsT_zero m] at HT
  go_wp2
  go_loopw [8] (fun i wr => ∃ k : Nat, k ≤ n ∧ i = .int .i64 k ∧ Hid (TableAt wr tb mb m (turnsT m k)) ∧ Hid (Below w.heap.size w wr)) (fun i _ => n - (intOf i).toNat)
  case atStart => exact ⟨0, Nat.zero_le _, rfl, HT, HB⟩
  case round =>
    obtain ⟨k, hk, rfl, HT, HB⟩ := hrel
    by_cases hlt : k < n
    · have t1 := touch_ok tb mb m (turnsT m k) (1000 - (k : Int)) k wr HT.out (by omega) (turnsT_wf m k (by omega)) (by rw [turnsT_len]; omega)
      rw [turns_touch m k m0 (by omega)] at t1
      simp only [touchIs] at t1
      have T1 := Lib.hid t1
      clear t1
      go_wp2_with fail
      refine T1.out.mono ?_
      rintro e w3 ⟨rfl, h3, hg3⟩
      have HB3 := Lib.hid (below_step HB.out hg3 hmb')
      have t2 := idle_ok tb mb m (turnsU m k) (1000 - (k : Int)) true w3 h3 (by omega) k false (turnsU_get m k)
      rw [turnsU_put m k m0] at t2
      have T2 := Lib.hid t2
      clear t2 h3 hg3 T1
      by_cases hm : k < m
      · rw [if_pos hm]
        go_wp2_with fail
        refine T2.out.mono ?_
        rintro e w4 ⟨rfl, h4, hg4⟩
        have HB4 := Lib.hid (below_step HB3.out hg4 hmb')
        have HT4 := Lib.hid h4
        clear h4 hg4
        go_wp2
        go_roundw
        case rel => exact ⟨k + 1, by omega, by go_num, HT4, HB4⟩
        case measure => simp [intOf]; omega
      · rw [if_neg hm]
        have e1 : ((k - m : Nat) : Int) = (k : Int) - m := by omega
        rw [e1]
        go_wp2_with fail
        refine T2.out.mono ?_
        rintro e w4 ⟨rfl, h4, hg4⟩
        have HB4 := Lib.hid (below_step HB3.out hg4 hmb')
        have HT4 := Lib.hid h4
        clear h4 hg4
        go_wp2
        go_roundw
        case rel => exact ⟨k + 1, by omega, by go_num, HT4, HB4⟩
        case measure => simp [intOf]; omega
    · have hkn : k = n := by omega
      subst hkn
      have t1 := len_ok tb mb m (turnsT m k) wr HT.out (by omega)
      rw [turnsT_len] at t1
      have T1 := Lib.hid t1
      clear t1
      go_wp2_with fail
      refine T1.out.mono ?_
      rintro e w3 ⟨rfl, rfl⟩
      go_wp2
      have e2 : (((min m k : Nat) : Int) == min (m : Int) k) = true := beq_iff_eq.2 (by omega)
      refine HR.out _ _ ⟨?_, HB.out⟩
      show Ending.returned (Value.bool (((min m k : Nat) : Int) == min (m : Int) k)) = _
      rw [e2]
end Go.Proofs.Ytpijbdddegbjbaa
