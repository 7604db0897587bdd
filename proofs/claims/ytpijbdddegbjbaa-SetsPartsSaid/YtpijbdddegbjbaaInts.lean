/- Rows of ints, and the kit's SameInts. Condition: the rows lie as IntsAt says. -/
import Derived.Test.YtpijbdddegbjbaaActs
import Derived.Test.YtpijbdddegbjbaaTabT
import Derived.BigQuiet
import Derived.Deep.QuietTactic
namespace Go.Proofs.Ytpijbdddegbjbaa
open Go.RowKit Go.Proofs
/-- A slice of ints. -/
def IntsAt (w : World) (v : Value) (l : List Int) : Prop :=
  ∃ ao cap, v = .slice ao l.length cap ∧ ∀ i (h : i < l.length), ∃ b o, ao = some ⟨b, o, none⟩ ∧ w.cell? ⟨b, o + i, none⟩ = some (.int .i64 l[i])
theorem intsAt_of_row {w : World} {base n : Nat} {t : TypeId} {v : Value} {l : List Int} (h : w.ownsRow base t 1 v n (l.map (Value.int .i64))) : IntsAt w v l ∧ l.length = n := by
  obtain ⟨hl, h⟩ := h
  have hl' : l.length = n := by simpa using hl
  refine ⟨?_, hl'⟩
  subst hl'
  rcases h with ⟨rfl, h0⟩ | ⟨g, cap, cur, rfl, hg, hb, hc, hm, hs, ht⟩
  · have : l = [] := by cases l <;> simp_all
    subst this
    exact ⟨none, 0, rfl, by intro i h; simp at h⟩
  · refine ⟨_, cap, rfl, fun i hi => ⟨g, 0, rfl, ?_⟩⟩
    have e := congrArg (fun m => m[i]?) ht
    simp [hi] at e
    rw [blk_cell hb, Nat.zero_add, e]
theorem IntsAt.lt {w : World} {v : Value} {l : List Int} (h : IntsAt w v l) : l ≠ [] → ∃ b o cap, v = .slice (some ⟨b, o, none⟩) l.length cap ∧ b < w.heap.size ∧ ∀ i (h : i < l.length), w.cell? ⟨b, o + i, none⟩ = some (.int .i64 l[i]) := by
  intro hne
  obtain ⟨ao, cap, rfl, h⟩ := h
  have h0 : 0 < l.length := by cases l <;> simp_all
  obtain ⟨b, o, rfl, hc⟩ := h 0 h0
  refine ⟨b, o, cap, rfl, cell_lt hc, fun i hi => ?_⟩
  obtain ⟨b', o', he, hc'⟩ := h i hi
  simp only [Option.some.injEq, Addr.mk.injEq, and_true] at he
  obtain ⟨rfl, rfl⟩ := he
  exact hc'
theorem IntsAt.of_blk {w w' : World} {v : Value} {l : List Int} (h : IntsAt w v l) (hb : ∀ b, v.ownBlock = some b → w'.heap[b]? = w.heap[b]?) : IntsAt w' v l := by
  obtain ⟨ao, cap, rfl, h⟩ := h
  refine ⟨ao, cap, rfl, fun i hi => ?_⟩
  obtain ⟨b, o, rfl, hc⟩ := h i hi
  exact ⟨b, o, rfl, (World.cell?_of_block (hb b rfl)).trans hc⟩
set_option maxRecDepth 100000 in
set_option maxHeartbeats 1000000 in
theorem sameInts_ok (w : World) (v v' : Value) (l l' : List Int) (h : IntsAt w v l) (h' : IntsAt w v' l') (hn : l.length ≤ 1000000) (hn' : l'.length ≤ 1000000) :
    Calls Try.prog 48 #[v, v'] w fun e w' => e = .returned (.bool (decide (l = l'))) ∧ Below w.heap.size w w' := by
  by_cases hlen : l.length = l'.length
  · by_cases hne : l = []
    · subst hne
      have : l' = [] := by cases l' <;> simp_all
      subst this
      obtain ⟨ao, cap, rfl, _⟩ := h
      obtain ⟨ao', cap', rfl, _⟩ := h'
      refine hideR fun R' HR => ?_
      go_enter Try.func48, Try.ntmps48
      go_wp2
      refine wp_loop_rounds 1 ?_
      rw [rounds_succ]
      go_wp2
      exact HR.out _ _ ⟨rfl, Below.refl _ _⟩
    · have hne' : l' ≠ [] := by rintro rfl; exact hne (by cases l <;> simp_all)
      obtain ⟨b, o, cap, rfl, hb, hc⟩ := h.lt hne
      obtain ⟨b', o', cap', rfl, hb', hc'⟩ := h'.lt hne'
      have HC := Lib.hid hc
      have HC' := Lib.hid hc'
      clear hc hc' h h'
      have HL := Lib.hid hlen
      rw [← hlen]
      clear hlen
      generalize hN : l.length = n at hn
      have HN := Lib.hid hN
      clear hN
      refine hideR fun R' HR => ?_
      go_enter Try.func48, Try.ntmps48
      go_wp2
      go_loopw [5] (fun i wr => ∃ k : Nat, k ≤ n ∧ i = .int .i64 k ∧ Hid (l.take k = l'.take k) ∧ Hid (Below w.heap.size w wr)) (fun i _ => n - (intOf i).toNat)
      case atStart => exact ⟨0, Nat.zero_le _, rfl, by simp [Hid], Below.refl _ _⟩
      case round =>
        obtain ⟨k, hk, rfl, HT, HB⟩ := hrel
        by_cases hlt : k < n
        · have hk1 : k < l.length := by rw [HN.out]; exact hlt
          have hk2 : k < l'.length := by rw [← HL.out, HN.out]; exact hlt
          have c1 : wr.cell? ⟨b, o + k, none⟩ = some (.int .i64 l[k]) := (HB.out.cell (by exact hb)).trans (HC.out k hk1)
          have c2 : wr.cell? ⟨b', o' + k, none⟩ = some (.int .i64 l'[k]) := (HB.out.cell (by exact hb')).trans (HC'.out k hk2)
          have hki : (k : Int) < (n : Int) := by omega
          by_cases heq : l[k] = l'[k]
          · have hq : (l[k] != l'[k]) = false := by simpa using heq
            have HT' : Hid (l.take (k + 1) = l'.take (k + 1)) := by
              rw [take_snoc l k hk1, take_snoc l' k hk2, heq, HT.out]
              exact Lib.hid rfl
            clear heq
            go_wp2
            go_quiet (fail)
            go_wp2
            go_roundw
            case rel => exact ⟨k + 1, by omega, by go_num, HT', below_drewN' HB.out _⟩
            case measure => simp [intOf]; omega
          · have hq : (l[k] != l'[k]) = true := by simpa using heq
            go_wp2
            go_quiet (fail)
            go_wp2
            refine HR.out _ _ ⟨?_, below_drewN' HB.out _⟩
            have : decide (l = l') = false := by
              rw [decide_eq_false_iff_not]
              intro e
              apply heq
              simp [e]
            rw [this]
            rfl
        · have hkn : k = n := by omega
          subst hkn
          go_wp2
          refine HR.out _ _ ⟨?_, HB.out⟩
          have : decide (l = l') = true := by
            rw [decide_eq_true_iff]
            have e := HT.out
            rw [List.take_of_length_le (by rw [HN.out]; exact Nat.le_refl _), List.take_of_length_le (by rw [← HL.out, HN.out]; exact Nat.le_refl _)] at e
            exact e
          rw [this]
          rfl
  · have hne : l ≠ l' := by rintro rfl; exact hlen rfl
    obtain ⟨ao, cap, rfl, _⟩ := h
    obtain ⟨ao', cap', rfl, _⟩ := h'
    have hq : ((l.length : Int) != (l'.length : Int)) = true := by simpa using fun e => hlen (by omega)
    refine hideR fun R' HR => ?_
    clear hlen
    go_enter Try.func48, Try.ntmps48
    go_wp2
    exact HR.out _ _ ⟨by simp [hne], Below.refl _ _⟩
/-- 'm[k]'. -/
theorem mapGet {K V : Type} {P : Program} {kt et t : TypeId} {enc : K → Value} {encv : V → Value} {w : World} {b : Nat} {l : List (K × V)} [DecidableEq K] (h : MapIs w b enc encv l) (ok : KeyOK P kt enc) (ht : P.underlying t = some (.map kt et)) (z : V) (hz : (zeroValue et).run P w = .ok (encv z) w) (k : K) :
    (Instr.lookup t (.map (some b)) (enc k) false).run P w = .ok (encv ((mget l k).getD z)) w := by
  have := h.look ok ht hz k false
  rw [this]
  cases mget l k <;> rfl
theorem zBool (w : World) : (zeroValue 4).run Try.prog w = .ok (.bool false) w := by kernel_rfl
theorem zInt (w : World) : (zeroValue 3).run Try.prog w = .ok (.int .i64 0) w := by kernel_rfl
set_option maxRecDepth 100000 in
set_option maxHeartbeats 1000000 in
/-- Is one of these idle? -/
theorem any20_ok (w : World) (v : Value) (l : List Int) (ib : Nat) (il : List (Int × Bool)) (h : IntsAt w v l) (hm : MapIs w ib encInt Value.bool il) (hn : l.length ≤ 1000000) :
    Calls Try.prog 52 #[v, .map (some ib)] w fun e w' => e = .returned (.bool (l.any fun x => (mget il x).getD false)) ∧ w = w' := by
  by_cases hne : l = []
  · subst hne
    obtain ⟨ao, cap, rfl, _⟩ := h
    refine hideR fun R' HR => ?_
    go_enter Try.func52, Try.ntmps52
    go_wp2
    refine wp_loop_rounds 1 ?_
    rw [rounds_succ]
    go_wp2
    exact HR.out _ _ ⟨rfl, rfl⟩
  · obtain ⟨b, o, cap, rfl, hb, hc⟩ := h.lt hne
    have HC := Lib.hid hc
    have HM := Lib.hid hm
    clear hc h hm hne
    generalize hN : l.length = n at hn
    have HN := Lib.hid hN
    clear hN
    refine hideR fun R' HR => ?_
    go_enter Try.func52, Try.ntmps52
    go_wp2
    go_loopw [5] (fun i wr => ∃ k : Nat, k ≤ n ∧ i = .int .i64 k ∧ Hid ((l.take k).any (fun x => (mget il x).getD false) = false) ∧ wr = w) (fun i _ => n - (intOf i).toNat)
    case atStart => exact ⟨0, Nat.zero_le _, rfl, by simp [Hid], rfl⟩
    case round =>
      obtain ⟨k, hk, rfl, HT, rfl⟩ := hrel
      by_cases hlt : k < n
      · have hk1 : k < l.length := by rw [HN.out]; exact hlt
        have c1 : wr.cell? ⟨b, o + k, none⟩ = some (.int .i64 l[k]) := HC.out k hk1
        have hki : (k : Int) < (n : Int) := by omega
        have hl := mapGet HM.out keyInt Try.underlying82 false (zBool _) l[k]
        have hs : (l.take (k + 1)).any (fun x => (mget il x).getD false) = (mget il l[k]).getD false := by
          rw [take_snoc l k hk1, List.any_append, HT.out]
          simp
        have HS := Lib.hid hs
        clear hs
        simp only [encInt] at hl
        cases hq : (mget il l[k]).getD false with
        | true =>
          rw [hq] at hl HS
          go_wp2
          refine HR.out _ _ ⟨?_, rfl⟩
          have : (l.any fun x => (mget il x).getD false) = true := by
            have hS := HS.out
            rw [List.any_eq_true] at hS ⊢
            obtain ⟨x, hx, hh⟩ := hS
            exact ⟨x, List.mem_of_mem_take hx, hh⟩
          rw [this]
          rfl
        | false =>
          rw [hq] at hl HS
          go_wp2
          go_roundw
          case rel => exact ⟨k + 1, by omega, by go_num, HS, trivial⟩
          case measure => simp [intOf]; omega
      · have hkn : k = n := by omega
        subst hkn
        go_wp2
        refine HR.out _ _ ⟨?_, rfl⟩
        have e := HT.out
        rw [List.take_of_length_le (by rw [HN.out]; exact Nat.le_refl _)] at e
        rw [e]
        rfl
theorem whenV (t : Tab) (k : Int) : ((mget t k).map (·.1)).getD 0 = (clOf t k).1 := by unfold clOf; cases mget t k <;> rfl
/-- The elements of a list, put into a map one by one. -/
def whensL (l : Tab) (xs : List Int) : List (Int × Int) := xs.foldl (fun m x => mput m x (clOf l x).1) []
theorem whensL_snoc (l : Tab) (xs : List Int) (x : Int) : whensL l (xs ++ [x]) = mput (whensL l xs) x (clOf l x).1 := by simp [whensL]
theorem whensL_get (l : Tab) : ∀ (xs : List Int) (x : Int), (mget (whensL l xs) x).getD 0 = if x ∈ xs then (clOf l x).1 else 0 := by
  suffices h : ∀ (xs : List Int) (m : List (Int × Int)) (x : Int), (mget (xs.foldl (fun m x => mput m x (clOf l x).1) m) x).getD 0 = if x ∈ xs then (clOf l x).1 else (mget m x).getD 0 by
    intro xs x
    have := h xs [] x
    unfold whensL
    rw [this]
    rfl
  intro xs
  induction xs with
  | nil => intro m x; simp
  | cons y xs ih =>
    intro m x
    rw [List.foldl_cons, ih]
    by_cases h1 : x ∈ xs
    · simp [h1]
    · by_cases h2 : x = y
      · subst h2
        simp [h1, mget_put_same]
      · simp [h1, h2, mget_put_other _ _ h2]
set_option maxRecDepth 100000 in
set_option maxHeartbeats 1000000 in
/-- When each client was touched. -/
theorem whens_ok (tb mb : Nat) (most : Int) (t : Tab) (w : World) (v : Value) (l : List Int) (hT : TableAt w tb mb most t) (hm : most ≠ 0) (h : IntsAt w v l) (hn : l.length ≤ 1000000) :
    Calls Try.prog 51 #[.pointer (some ⟨tb, 0, none⟩), v] w fun e w' => ∃ ib, e = .returned (.map (some ib)) ∧ MapIs w' ib encInt encInt (whensL t l) ∧ w.heap.size ≤ ib ∧ Below w.heap.size w w' := by
  have htb := blk_lt hT.1
  have hmb := hT.2.1.lt
  have hmm := @run_makeMap Try.prog
  by_cases hne : l = []
  · subst hne
    obtain ⟨ao, cap, rfl, _⟩ := h
    refine hideR fun R' HR => ?_
    go_enter Try.func51, Try.ntmps51
    go_wp2
    refine wp_loop_rounds 1 ?_
    rw [rounds_succ]
    go_wp2
    exact HR.out _ _ ⟨w.heap.size, rfl, MapIs.made w encInt encInt, by omega, (Below.refl _ _).alloc (Nat.le_refl _) _⟩
  · obtain ⟨b, o, cap, rfl, hb, hc⟩ := h.lt hne
    have HC := Lib.hid hc
    have HT := Lib.hid hT
    clear hc h hT hne
    generalize hN : l.length = n at hn
    have HN := Lib.hid hN
    clear hN
    refine hideR fun R' HR => ?_
    go_enter Try.func51, Try.ntmps51
    go_wp2
    clear hmm
    go_loopw [6, 7, 8] (fun i _ _ wr => ∃ k : Nat, k ≤ n ∧ i = .int .i64 k ∧ Hid (MapIs wr w.heap.size encInt encInt (whensL t (l.take k))) ∧ Hid (Below w.heap.size w wr)) (fun i _ _ _ => n - (intOf i).toNat)
    case atStart => exact ⟨0, Nat.zero_le _, rfl, MapIs.made w encInt encInt, (Below.refl _ _).alloc (Nat.le_refl _) _⟩
    case round =>
      obtain ⟨k, hk, rfl, HM, HB⟩ := hrel
      by_cases hlt : k < n
      · have hk1 : k < l.length := by rw [HN.out]; exact hlt
        have c1 : wr.cell? ⟨b, o + k, none⟩ = some (.int .i64 l[k]) := (HB.out.cell (by exact hb)).trans (HC.out k hk1)
        have hki : (k : Int) < (n : Int) := by omega
        have hw := when_ok tb mb most t l[k] wr (HT.out.below HB.out htb hmb) hm
        rw [whenV] at hw
        have HW := Lib.hid hw
        clear hw
        go_wp2_with fail
        refine HW.out.mono ?_
        rintro e w1 ⟨rfl, hb1⟩
        have HB1 := Lib.hid (HB.out.trans (hb1.mono HB.out.size))
        have c2 : w1.cell? ⟨b, o + k, none⟩ = some (.int .i64 l[k]) := (HB1.out.cell (by exact hb)).trans (HC.out k hk1)
        have HM1 := Lib.hid (HM.out.below hb1 HM.out.lt)
        clear hb1
        go_wp2_with (at_mapUpdate; refine wpList_mstore _ rfl _ _ _ 83 rfl keyInt Try.underlying83 w.heap.size rfl HM1.out l[k] rfl (clOf t l[k]).1 rfl ?_; intro w2 hm2 hg2)
        have HM2 : Hid (MapIs w2 w.heap.size encInt encInt (whensL t (l.take (k + 1)))) := by
          rw [take_snoc l k hk1, whensL_snoc]
          exact hm2
        have HB2 := Lib.hid (below_step HB1.out hg2 (Nat.le_refl _))
        clear hm2 hg2
        go_roundw
        case rel => exact ⟨k + 1, by omega, by go_num, HM2, HB2⟩
        case measure => simp [intOf]; omega
      · have hkn : k = n := by omega
        subst hkn
        go_wp2
        have e := HM.out
        rw [List.take_of_length_le (by rw [HN.out]; exact Nat.le_refl _)] at e
        exact HR.out _ _ ⟨w.heap.size, rfl, e, Nat.le_refl _, HB.out⟩
end Go.Proofs.Ytpijbdddegbjbaa
