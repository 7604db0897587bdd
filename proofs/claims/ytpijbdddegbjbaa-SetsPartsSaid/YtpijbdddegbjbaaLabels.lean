/- Contracts of package name: the labels of a name. No condition. -/
import Derived.Test.YtpijbdddegbjbaaProg
import Derived.Test.YtpijbdddegbjbaaRange
import Derived.OwnWalkIn
import Derived.TacticsInMore
import Derived.LoopNIn
import Derived.LoopIn
import Derived.Sort.BigQuietIn
import Derived.Shelf.RegionOpen
import Derived.Maps.AppendAt
import Derived.Lib.Strings
import Derived.IntWalk
namespace Go.Proofs.Ytpijbdddegbjbaa
open Go.RowKit Go.Proofs Go.Shelf
attribute [local go_sem] Oper.semAt_some
/-- A string's bytes, as a list, and back. -/
def bl (s : ByteArray) : List UInt8 := s.data.toList
def sb (l : List UInt8) : ByteArray := ⟨l.toArray⟩
@[simp] theorem bl_sb (l : List UInt8) : bl (sb l) = l := by simp [bl, sb]
@[simp] theorem sb_bl (s : ByteArray) : sb (bl s) = s := by simp [bl, sb]
theorem bl_len (s : ByteArray) : (bl s).length = s.size := by simp [bl]
theorem bl_inj {a b : ByteArray} (h : bl a = bl b) : a = b := by rw [← sb_bl a, h, sb_bl]
/-- What a name's iterator hands on. -/
def Steps : List UInt8 → List (List UInt8 × Bool)
  | [] => [([], false)]
  | c :: r => if c = 0 ∧ r = [] then [] else if c = 0 ∨ 63 < c.toNat ∨ r.length < c.toNat then [([], false)] else (r.take c.toNat, true) :: Steps (r.drop c.toNat)
termination_by l => l.length
decreasing_by simp; omega
/-- How many bytes are left in a box. -/
def strLeft (bx : Nat) (w : World) : Nat := match w.cell? ⟨bx, 0, none⟩ with
  | some (.string t) => t.size
  | _ => 0
theorem strLeft_of {bx : Nat} {w : World} {t : ByteArray} {e : TypeId} {fr : Nat × Nat} (h : w.heap[bx]? = some (.cells #[.string t] e fr)) : strLeft bx w = t.size := by
  unfold strLeft
  rw [blk_cell h 0]
  rfl
theorem bl_get {t : ByteArray} {c : UInt8} {r : List UInt8} (h : bl t = c :: r) (h0 : 0 < t.size) : t[0] = c := by
  obtain ⟨⟨l⟩⟩ := t
  simp [bl] at h
  subst h
  rfl
theorem bl_extract (t : ByteArray) (a b : Nat) : bl (t.extract a b) = ((bl t).drop a).take (b - a) := by
  unfold bl
  rw [Lib.extract_data]
abbrev encStep (x : List UInt8 × Bool) : Array Value := #[.string (sb x.1), .bool x.2]
set_option maxRecDepth 100000 in
theorem nAll_ok (n : Nat) (s : ByteArray) (w : World) : CallsIn Fence.wide n Try.prog 186 #[.string s] w fun e w' => e = .returned (.func (.func 217) #[] #[.pointer (some ⟨w.heap.size, 0, none⟩)]) ∧ w' = w.alloc (.cells #[.string s] 9) := by
  refine callsIn_of_wp Try.func186 rfl trivial ?_ rfl
  simp only [Try.ntmps186, List.size_toArray, List.length_cons, List.length_nil, Nat.reduceAdd, Nat.reduceSub, Array.replicate_succ, Array.replicate_zero, List.push_toArray, List.append_toArray, List.nil_append, List.cons_append]
  gi_wp2
  go_ret
  exact ⟨rfl, rfl⟩
set_option maxRecDepth 100000 in
set_option maxHeartbeats 1000000 in
theorem all1_box (n : Nat) (hn : 1 ≤ n) (bx : Nat) (s : ByteArray) (w : World) (hs : s.size ≤ 1000000000) (hc : w.heap[bx]? = some (.cells #[.string s] 9 (0, 0))) :
    SeqBox Fence.wide n Try.prog 217 #[.pointer (some ⟨bx, 0, none⟩)] encStep bx (fun xs => xs = Steps (bl s)) (fun pre => pre <+: Steps (bl s)) w := fun l J Jx W hW hJ hJd hJxd hY h0 => by
  have hbx : bx < w.heap.size := blk_lt hc
  have hcW := bel_blk hW hbx hc
  refine callsIn_of_wp Try.func217 rfl trivial ?_ rfl
  simp only [Try.ntmps217, List.size_toArray, List.length_cons, List.length_nil, Nat.reduceAdd, Nat.reduceSub, Array.replicate_succ, Array.replicate_zero, List.push_toArray, List.append_toArray, List.nil_append, List.cons_append]
  gi_wp2
  gi_loopw [] (fun wr => ∃ (pre : List (List UInt8 × Bool)) (t : ByteArray), wr.heap[bx]? = some (.cells #[.string t] 9 (0, 0)) ∧ J pre wr ∧ t.size ≤ 1000000000 ∧ Steps (bl s) = pre ++ Steps (bl t)) (fun wr => strLeft bx wr)
  case atStart => exact ⟨[], s, hcW, h0, hs, rfl⟩
  case round =>
    obtain ⟨pre, t, hct, hJt, hts, hst⟩ := hrel
    have hcell := blk_cell hct 0
    have HT := Lib.hid hst
    clear hst
    by_cases hroot : t.toList = [0]
    · have hr : (t.toList == [0]) = true := by simpa using hroot
      have hS : Hid (Steps (bl s) = pre) := by
        have e : bl t = [0] := by rw [← hroot]; exact (ByteArray.toList_eq t).symm
        have := HT.out
        rw [e, Steps] at this
        exact Lib.hid (by simpa using this)
      clear hroot
      gi_wp2
      refine bodyPost_ret (results_none rfl _ _ _) rfl ?_
      exact ⟨⟨_, rfl⟩, .inl ⟨pre, hS.out.symm, hJt⟩⟩
    · have hr : (t.toList == [0]) = false := by simpa using hroot
      have eb : bl t = t.data.toList := rfl
      by_cases h0 : t.size = 0
      · have h0' : ((t.size : Int) == 0) = true := by simp [h0]
        have HT' : Hid (Steps (bl s) = pre ++ [([], false)]) := by
          have e : bl t = [] := by rw [← List.length_eq_zero_iff, bl_len]; exact h0
          rw [HT.out, e, Steps]; exact Lib.hid rfl
        clear h0 eb
        gi_wp2
        gi_big_quiet_th (fail)
        obtain ⟨fn, tmps, assign, body, hy, hR⟩ := hY pre ([], false) (wr.drewN nq) (hJd _ _ _ hJt) (by rw [HT'.out]; exact List.prefix_refl _)
        rw [show encStep ([], false) = #[Value.string { data := #[] }, Value.bool false] from rfl] at hy
        gi_wp2
        refine hR.mono ?_
        rintro e W3 (⟨rfl, hJ3, hk3⟩ | ⟨rfl, hJx3⟩)
        · gi_wp2
          refine bodyPost_ret (results_none rfl _ _ _) rfl ?_
          exact ⟨⟨_, rfl⟩, .inl ⟨_, HT'.out.symm, hJ3⟩⟩
        · gi_wp2
          refine bodyPost_ret (results_none rfl _ _ _) rfl ?_
          exact ⟨⟨_, rfl⟩, .inr ⟨_, by rw [HT'.out]; exact List.prefix_refl _, hJx3⟩⟩
      · have hsz : 0 < t.size := by omega
        have h0' : ((t.size : Int) == 0) = false := by simp [h0]
        obtain ⟨c, r, hcr, hc0⟩ : ∃ c r, bl t = c :: r ∧ t[0] = c := by
          cases hb : bl t with
          | nil => rw [← bl_len, hb] at hsz; simp at hsz
          | cons c r =>
            exact ⟨c, r, rfl, bl_get hb hsz⟩
        have hl : r.length + 1 = t.size := by rw [← bl_len, hcr]; simp
        have hroot' : ¬ (c = 0 ∧ r = []) := by
          rintro ⟨rfl, rfl⟩
          exact hroot (by rw [ByteArray.toList_eq]; exact hcr)
        have hb1 : (0 : Int) ≤ (t[0].toNat : Int) := by omega
        have hb2 : (t[0].toNat : Int) ≤ 255 := by have := t[0].toNat_lt; omega
        by_cases hz : c.toNat = 0 ∨ 63 < c.toNat ∨ t.size ≤ c.toNat
        · have HT' : Hid (Steps (bl s) = pre ++ [([], false)]) := by
            rw [HT.out, hcr, Steps, if_neg hroot', if_pos]
            · exact Lib.hid rfl
            · rcases hz with h | h | h
              · exact .inl (UInt8.toNat_inj.1 (by simpa using h))
              · exact .inr (.inl h)
              · exact .inr (.inr (by omega))
          clear hroot hroot' hl hcr eb h0
          by_cases hz1 : c.toNat = 0
          · have hz' : ((t[0].toNat : Int) == 0) = true := by simp [hc0, hz1]
            clear hz1 hz hc0
            gi_wp2
            gi_big_quiet_th (fail)
            obtain ⟨fn, tmps, assign, body, hy, hR⟩ := hY pre ([], false) (wr.drewN nq) (hJd _ _ _ hJt) (by rw [HT'.out]; exact List.prefix_refl _)
            rw [show encStep ([], false) = #[Value.string { data := #[] }, Value.bool false] from rfl] at hy
            gi_wp2
            refine hR.mono ?_
            rintro e W3 (⟨rfl, hJ3, hk3⟩ | ⟨rfl, hJx3⟩)
            · gi_wp2
              refine bodyPost_ret (results_none rfl _ _ _) rfl ?_
              exact ⟨⟨_, rfl⟩, .inl ⟨_, HT'.out.symm, hJ3⟩⟩
            · gi_wp2
              refine bodyPost_ret (results_none rfl _ _ _) rfl ?_
              exact ⟨⟨_, rfl⟩, .inr ⟨_, by rw [HT'.out]; exact List.prefix_refl _, hJx3⟩⟩
          · have hz1' : ((t[0].toNat : Int) == 0) = false := by simp [hc0, hz1]
            by_cases hz2 : 63 < c.toNat
            · have hz' : decide ((t[0].toNat : Int) > 63) = true := by rw [hc0]; simp; omega
              clear hz1 hz2 hz hc0
              gi_wp2
              gi_big_quiet_th (fail)
              obtain ⟨fn, tmps, assign, body, hy, hR⟩ := hY pre ([], false) (wr.drewN nq) (hJd _ _ _ hJt) (by rw [HT'.out]; exact List.prefix_refl _)
              rw [show encStep ([], false) = #[Value.string { data := #[] }, Value.bool false] from rfl] at hy
              gi_wp2
              refine hR.mono ?_
              rintro e W3 (⟨rfl, hJ3, hk3⟩ | ⟨rfl, hJx3⟩)
              · gi_wp2
                refine bodyPost_ret (results_none rfl _ _ _) rfl ?_
                exact ⟨⟨_, rfl⟩, .inl ⟨_, HT'.out.symm, hJ3⟩⟩
              · gi_wp2
                refine bodyPost_ret (results_none rfl _ _ _) rfl ?_
                exact ⟨⟨_, rfl⟩, .inr ⟨_, by rw [HT'.out]; exact List.prefix_refl _, hJx3⟩⟩
            · have hz2' : decide ((t[0].toNat : Int) > 63) = false := by rw [hc0]; simp; omega
              have hz' : decide (t.size ≤ t[0].toNat) = true := by rw [hc0]; simp; omega
              clear hz1 hz2 hz hc0
              gi_wp2
              gi_big_quiet_th (fail)
              obtain ⟨fn, tmps, assign, body, hy, hR⟩ := hY pre ([], false) (wr.drewN nq) (hJd _ _ _ hJt) (by rw [HT'.out]; exact List.prefix_refl _)
              rw [show encStep ([], false) = #[Value.string { data := #[] }, Value.bool false] from rfl] at hy
              gi_wp2
              refine hR.mono ?_
              rintro e W3 (⟨rfl, hJ3, hk3⟩ | ⟨rfl, hJx3⟩)
              · gi_wp2
                refine bodyPost_ret (results_none rfl _ _ _) rfl ?_
                exact ⟨⟨_, rfl⟩, .inl ⟨_, HT'.out.symm, hJ3⟩⟩
              · gi_wp2
                refine bodyPost_ret (results_none rfl _ _ _) rfl ?_
                exact ⟨⟨_, rfl⟩, .inr ⟨_, by rw [HT'.out]; exact List.prefix_refl _, hJx3⟩⟩
        · have hz1' : ((t[0].toNat : Int) == 0) = false := by simp [hc0]; omega
          have hz2' : decide ((t[0].toNat : Int) > 63) = false := by rw [hc0]; simp; omega
          have hz' : decide (t.size ≤ t[0].toNat) = false := by rw [hc0]; simp; omega
          have hs1 : (1 : Int) ≤ (1 : Int) + (t[0].toNat : Int) := by omega
          have hs2 : (1 : Int) + (t[0].toNat : Int) ≤ (t.size : Int) := by rw [hc0]; omega
          have HT' : Hid (Steps (bl s) = pre ++ (r.take c.toNat, true) :: Steps (r.drop c.toNat)) := by
            rw [HT.out, hcr, Steps, if_neg hroot', if_neg]
            · exact Lib.hid rfl
            · rintro (h | h | h)
              · subst h; simp at hz
              · omega
              · omega
          have hx1 : t.extract 1 ((1 : Int) + (t[0].toNat : Int)).toNat = sb (r.take c.toNat) := by
            apply bl_inj
            rw [bl_extract, bl_sb, hcr, hc0, show ((1 : Int) + (c.toNat : Int)).toNat = c.toNat + 1 from by omega]
            simp
          have hx2 : t.extract ((1 : Int) + (t[0].toNat : Int)).toNat t.size = sb (r.drop c.toNat) := by
            apply bl_inj
            rw [bl_extract, bl_sb, hcr, hc0, show ((1 : Int) + (c.toNat : Int)).toNat = c.toNat + 1 from by omega, List.drop_succ_cons, List.take_of_length_le]
            simp; omega
          have hw1 : IntKind.i64.wrap (t[0].toNat : Int) = (t[0].toNat : Int) := IntWalk.i64_in _ (by omega)
          have hw2 : IntKind.i64.wrap ((1 : Int) + (t[0].toNat : Int)) = (1 : Int) + (t[0].toNat : Int) := IntWalk.i64_in _ (by omega)
          have hs0 : (0 : Int) ≤ (1 : Int) + (t[0].toNat : Int) := by omega
          have HS2 : Hid ((sb (r.drop c.toNat)).size < t.size) := Lib.hid (by rw [← bl_len, bl_sb]; simp; omega)
          clear hz hc0 hl hroot hroot' hcr eb h0
          have HX : Hid (bl (sb (r.drop c.toNat)) = r.drop c.toNat) := Lib.hid (bl_sb _)
          have HE : Hid (encStep (r.take c.toNat, true) = #[.string (sb (r.take c.toNat)), .bool true]) := Lib.hid rfl
          generalize sb (r.take c.toNat) = t1 at *
          generalize sb (r.drop c.toNat) = t2 at *
          gi_wp2
          gi_big_quiet_th (fail)
          gi_wp2
          obtain ⟨fn, tmps, assign, body, hy, hR⟩ := hY pre (r.take c.toNat, true) (wr.drewN (nq + 1)) (hJd _ _ _ hJt) ⟨Steps (r.drop c.toNat), by rw [HT'.out, List.append_assoc]; rfl⟩
          rw [HE.out] at hy
          have hR' : RoundIn Fence.wide (n - 1) Try.prog l fn tmps assign body (wr.drewN (nq + 1)) (fun e W' => ∃ b : Bool, e = .returned (.bool b) ∧ Hid (if b = true then J (pre ++ [(r.take c.toNat, true)]) W' ∧ W'.heap[bx]? = wr.heap[bx]? else Jx (pre ++ [(r.take c.toNat, true)]) W')) :=
            hR.mono (by
              rintro e W3 (⟨rfl, h1, h2⟩ | ⟨rfl, h1⟩)
              · exact ⟨true, rfl, h1, h2⟩
              · exact ⟨false, rfl, h1⟩)
          clear hR
          gi_region_with ((refine hR'.mono ?_; rintro e W3 ⟨b, rfl, hP⟩))
          all_goals
            clear hy hR' hw1 hw2
            cases b with
            | false =>
              gi_wp2
              refine bodyPost_ret (results_none rfl _ _ _) rfl ?_
              have hP' := hP.out
              rw [if_neg (by simp)] at hP'
              exact ⟨⟨_, rfl⟩, .inr ⟨_, ⟨Steps (r.drop c.toNat), by rw [HT'.out, List.append_assoc]; rfl⟩, hP'⟩⟩
            | true =>
              have hP' := hP.out
              rw [if_pos rfl] at hP'
              obtain ⟨hJ3, hb3⟩ := hP'
              have hct3 := hb3.trans hct
              have hc3 := blk_cell hct3 0
              have hf3 := blk_free hct3 0 (.inr rfl)
              have hw1 : IntKind.i64.wrap (t[0].toNat : Int) = (t[0].toNat : Int) := IntWalk.i64_in _ (by omega)
              have hw2 : IntKind.i64.wrap ((1 : Int) + (t[0].toNat : Int)) = (1 : Int) + (t[0].toNat : Int) := IntWalk.i64_in _ (by omega)
              clear hP hb3
              gi_wp2
              gi_region
              all_goals
                have hnew : ∀ q, ((W3.setCell ⟨bx, 0, none⟩ (.string t2)).drewN q).heap[bx]? = some (.cells #[.string t2] 9 (0, 0)) := fun q => by
                  have := blk_set hct3 0 (.string t2)
                  simpa using this
                have hnc := fun q => blk_cell (hnew q) 0
                gi_wp2
                go_roundw
                case rel => exact ⟨pre ++ [(r.take c.toNat, true)], t2, hnew 1, hJd _ _ 1 (hJ _ _ _ hJ3), by have := HS2.out; omega, by rw [HT'.out, HX.out, List.append_assoc]; rfl⟩
                case measure =>
                  rw [strLeft_of hct]
                  exact Nat.lt_of_le_of_lt (Nat.le_of_eq (strLeft_of (hnew 1))) HS2.out
end Go.Proofs.Ytpijbdddegbjbaa
