/- Laws on memory that all walks of this seat use: blocks of cells, maps as lists of keys and elements. No condition. -/
import Derived.WalkKit
import Derived.WalkLawsBesides
import Derived.WalkSpells
import Derived.Lib.Hide
import Derived.Maps.OwnSet
import Derived.LaidEql
import Derived.StillTailTactics
namespace Go.Proofs.Ytpijbdddegbjbaa
open Go.RowKit
/-- A call's post, kept from the walk. -/
theorem hideR {P : Program} {f : FuncId} {args : Array Value} {w : World} {R : Ending → World → Prop} (h : ∀ R' : Ending → World → Prop, Hid (∀ e w', R e w' → R' e w') → Calls P f args w R') : Calls P f args w R :=
  h R (fun _ _ h => h)
/-! ### blocks -/
theorem blk_set {w : World} {b : Nat} {c : Array Value} {e : TypeId} {fr : Nat × Nat} (h : w.heap[b]? = some (.cells c e fr)) (j : Nat) (v : Value) :
    (w.setCell ⟨b, j, none⟩ v).heap[b]? = some (.cells (c.setIfInBounds j v) e fr) := by
  simp [World.setCell, Array.getElem?_modify, h]
theorem blk_cell {w : World} {b : Nat} {c : Array Value} {e : TypeId} {fr : Nat × Nat} (h : w.heap[b]? = some (.cells c e fr)) (j : Nat) :
    w.cell? ⟨b, j, none⟩ = c[j]? := by simp [World.cell?, h]
theorem blk_free {w : World} {b : Nat} {c : Array Value} {e : TypeId} {lo hi : Nat} (h : w.heap[b]? = some (.cells c e (lo, hi))) (j : Nat) (hj : j < lo ∨ lo = hi) :
    w.frozen? ⟨b, j, none⟩ = false := by simp [World.frozen?, h]; omega
theorem blk_new (w : World) (o : Obj) : (w.alloc o).heap[w.heap.size]? = some o := by
  show (w.heap.push o)[_]? = _
  simp
theorem blk_lt {w : World} {b : Nat} {o : Obj} (h : w.heap[b]? = some o) : b < w.heap.size := (Array.getElem?_eq_some_iff.1 h).1
theorem cell_lt {w : World} {a : Addr} {v : Value} (h : w.cell? a = some v) : a.block < w.heap.size := World.block_lt_of_cell? w a h
theorem bel_blk {B : Nat} {w w' : World} (h : Below B w w') {b : Nat} (hb : b < B) {o : Obj} (hc : w.heap[b]? = some o) : w'.heap[b]? = some o := (h.block b hb).trans hc
theorem bel_cell {B : Nat} {w w' : World} (h : Below B w w') {a : Addr} {v : Value} (hb : a.block < B) (hc : w.cell? a = some v) : w'.cell? a = some v := (h.cell hb).trans hc
theorem bel_froz {B : Nat} {w w' : World} (h : Below B w w') {a : Addr} {v : Bool} (hb : a.block < B) (hc : w.frozen? a = v) : w'.frozen? a = v := (h.frozen hb).trans hc
theorem bcell {W w1 : World} (hb : Below W.heap.size W w1) : (∀ b o, b < W.heap.size → w1.cell? ⟨b, o, none⟩ = W.cell? ⟨b, o, none⟩) ∧ (∀ b o, b < W.heap.size → w1.frozen? ⟨b, o, none⟩ = W.frozen? ⟨b, o, none⟩) :=
  ⟨fun b o h => hb.cell (p := ⟨b, o, none⟩) h, fun b o h => hb.frozen (p := ⟨b, o, none⟩) h⟩
/-- w' is w with new blocks, and with whatever has been done to block b. -/
theorem grown_trans {w w' w'' : World} {b : Option Nat} (h : w.grownBy w' b) (h' : w'.grownBy w'' b) : w.grownBy w'' b :=
  ⟨h'.os.trans h.os, h'.tape.trans h.tape, h'.output.trans h.output, Nat.le_trans h.size h'.size, fun k hk hne => (h'.block k (Nat.lt_of_lt_of_le hk h.size) hne).trans (h.block k hk hne)⟩
theorem grown_below {w w' w'' : World} {b : Option Nat} (h : w.grownBy w' b) (h' : Below w'.heap.size w' w'') : w.grownBy w'' b :=
  ⟨h'.os.trans h.os, h'.tape.trans h.tape, h'.output.trans h.output, Nat.le_trans h.size h'.size, fun k hk hne => (h'.block k (Nat.lt_of_lt_of_le hk h.size)).trans (h.block k hk hne)⟩
theorem grown_of_below {w w' : World} {b : Option Nat} (h : Below w.heap.size w w') : w.grownBy w' b :=
  ⟨h.os, h.tape, h.output, h.size, fun k hk _ => h.block k hk⟩
theorem grown_refl (w : World) (b : Option Nat) : w.grownBy w b := ⟨rfl, rfl, rfl, Nat.le_refl _, fun _ _ _ => rfl⟩
theorem below_of_grown {w w' : World} (h : w.grownBy w' none) : Below w.heap.size w w' :=
  ⟨h.os, h.tape, h.output, h.size, fun k hk => h.block k hk (by simp)⟩
/-! ### maps, as lists of keys and elements -/
section
variable {K V : Type}
section
variable [DecidableEq K]
def mget (l : List (K × V)) (k : K) : Option V := (l.find? (fun p => decide (p.1 = k))).map (·.2)
def mput (l : List (K × V)) (k : K) (v : V) : List (K × V) := if l.any (fun p => decide (p.1 = k)) then l.map (fun p => if p.1 = k then (k, v) else p) else l ++ [(k, v)]
def mdel (l : List (K × V)) (k : K) : List (K × V) := l.filter (fun p => !decide (p.1 = k))
theorem mget_put_same (l : List (K × V)) (k : K) (v : V) : mget (mput l k v) k = some v := by
  unfold mget mput
  split
  · rename_i h
    induction l with
    | nil => simp at h
    | cons p l ih =>
      by_cases hp : p.1 = k
      · simp [hp]
      · simp [hp] at h ⊢
        obtain ⟨b, hb⟩ := h
        have := ih (by simp; exact ⟨_, hb⟩)
        simpa using this
  · rename_i h
    rw [List.find?_append]
    have : l.find? (fun p => decide (p.1 = k)) = none := by
      rw [List.find?_eq_none]
      intro x hx hk
      exact h (List.any_eq_true.2 ⟨x, hx, hk⟩)
    simp [this]
theorem mget_put_other (l : List (K × V)) {k k' : K} (v : V) (h : k' ≠ k) : mget (mput l k v) k' = mget l k' := by
  unfold mget mput
  split
  · rename_i hany
    clear hany
    induction l with
    | nil => simp
    | cons p l ih =>
      by_cases hp : p.1 = k
      · simp [hp, List.find?_cons, Ne.symm h]
        simpa using ih
      · by_cases hp' : p.1 = k'
        · simp [hp', List.find?_cons, h]
        · simp [hp, hp', List.find?_cons]
          simpa using ih
  · rw [List.find?_append]
    cases l.find? (fun p => decide (p.1 = k')) with
    | none => simp [Ne.symm h]
    | some x => simp
theorem mget_del_same (l : List (K × V)) (k : K) : mget (mdel l k) k = none := by
  simp [mget, mdel, List.find?_eq_none]
theorem mget_del_other (l : List (K × V)) {k k' : K} (h : k' ≠ k) : mget (mdel l k) k' = mget l k' := by
  unfold mget mdel
  congr 1
  induction l with
  | nil => rfl
  | cons p l ih =>
    by_cases hp : p.1 = k
    · simp [hp, List.find?_cons, Ne.symm h]
      simpa using ih
    · have e : List.filter (fun p => !decide (p.1 = k)) (p :: l) = p :: List.filter (fun p => !decide (p.1 = k)) l := by simp [hp]
      rw [e, List.find?_cons, List.find?_cons, ih]
theorem mput_keys (l : List (K × V)) (k : K) (v : V) : (mput l k v).map (·.1) = if l.any (fun p => decide (p.1 = k)) then l.map (·.1) else l.map (·.1) ++ [k] := by
  unfold mput
  split
  · rw [List.map_map]
    apply List.map_congr_left
    intro p _
    simp only [Function.comp]
    split <;> simp_all
  · simp
theorem mput_nodup {l : List (K × V)} (h : (l.map (·.1)).Nodup) (k : K) (v : V) : ((mput l k v).map (·.1)).Nodup := by
  rw [mput_keys]
  split
  · exact h
  · rename_i hn
    rw [List.nodup_append]
    refine ⟨h, by simp, ?_⟩
    intro a ha b hb
    simp at hb
    subst hb
    rintro rfl
    obtain ⟨p, hp, rfl⟩ := List.mem_map.1 ha
    exact hn (List.any_eq_true.2 ⟨p, hp, by simp⟩)
theorem mdel_nodup {l : List (K × V)} (h : (l.map (·.1)).Nodup) (k : K) : ((mdel l k).map (·.1)).Nodup := by
  unfold mdel
  exact List.Nodup.sublist (List.Sublist.map _ List.filter_sublist) h
theorem mput_has {l : List (K × V)} {k : K} (v : V) (h : (mget l k).isSome) : (mput l k v).length = l.length := by
  unfold mput
  rw [if_pos]
  · simp
  · simp only [mget, Option.isSome_map, List.find?_isSome] at h
    exact List.any_eq_true.2 h
theorem mput_new {l : List (K × V)} {k : K} (v : V) (h : mget l k = none) : mput l k v = l ++ [(k, v)] := by
  unfold mput
  rw [if_neg]
  intro hh
  simp only [mget, Option.map_eq_none_iff, List.find?_eq_none] at h
  obtain ⟨x, hx, hk⟩ := List.any_eq_true.1 hh
  exact h x hx hk
end
/-- What is asked of a key's type. -/
structure KeyOK [DecidableEq K] (P : Program) (kt : TypeId) (enc : K → Value) : Prop where
  check : ∀ (w : World) em k, (Instr.checkKey em 10000 kt (enc k)).run P w = .ok () w
  find : ∀ (w : World) k (es : List MapEntry) (ks : List K), es.map (·.key) = ks.map enc → (Instr.findKey kt (enc k) es).run P w = .ok ((ks.findIdx? (fun x => decide (x = k))).bind fun i => (es[i]?).map fun e => (i, e.val)) w
  stays : ∀ (w : World) k, (Instr.keyThatStays (enc k) (enc k)).run P w = .ok (enc k) w
/-- Block b is a map that holds these keys with these elements. -/
def MapIs (w : World) (b : Nat) (enc : K → Value) (encv : V → Value) (l : List (K × V)) : Prop :=
  ∃ arr clock, w.heap[b]? = some (.map arr clock) ∧ arr.toList.map (·.key) = l.map (fun p => enc p.1) ∧ arr.toList.map (·.val) = l.map (fun p => encv p.2) ∧
    (l.map (·.1)).Nodup ∧ arr.toList.Pairwise (fun x y => x.born < y.born) ∧ ∀ x ∈ arr.toList, x.born < clock
theorem MapIs.lt {w : World} {b : Nat} {enc : K → Value} {encv : V → Value} {l : List (K × V)} (h : MapIs w b enc encv l) : b < w.heap.size := by
  obtain ⟨arr, clock, hb, _⟩ := h
  exact blk_lt hb
theorem MapIs.nodup {w : World} {b : Nat} {enc : K → Value} {encv : V → Value} {l : List (K × V)} (h : MapIs w b enc encv l) : (l.map (·.1)).Nodup := by
  obtain ⟨arr, clock, _, _, _, h, _⟩ := h
  exact h
theorem MapIs.of_blk {w w' : World} {b : Nat} {enc : K → Value} {encv : V → Value} {l : List (K × V)} (h : MapIs w b enc encv l) (hb : w'.heap[b]? = w.heap[b]?) : MapIs w' b enc encv l := by
  obtain ⟨arr, clock, h1, r⟩ := h
  exact ⟨arr, clock, hb.trans h1, r⟩
theorem MapIs.below {w w' : World} {b B : Nat} {enc : K → Value} {encv : V → Value} {l : List (K × V)} (h : MapIs w b enc encv l) (hw : Below B w w') (hb : b < B) : MapIs w' b enc encv l := h.of_blk (hw.block b hb)
theorem MapIs.kept {w w' : World} {b : Nat} {row : Option Nat} {enc : K → Value} {encv : V → Value} {l : List (K × V)} (h : MapIs w b enc encv l) (hw : w.grownBy w' row) (hb : some b ≠ row) : MapIs w' b enc encv l := h.of_blk (hw.block b h.lt hb)
theorem MapIs.alloc {w : World} {b : Nat} {enc : K → Value} {encv : V → Value} {l : List (K × V)} (h : MapIs w b enc encv l) (o : Obj) : MapIs (w.alloc o) b enc encv l := h.of_blk (Below.heap_alloc w o b h.lt)
theorem MapIs.setCell {w : World} {b : Nat} {enc : K → Value} {encv : V → Value} {l : List (K × V)} (h : MapIs w b enc encv l) (a : Addr) (v : Value) (hb : b ≠ a.block) : MapIs (w.setCell a v) b enc encv l := h.of_blk (Below.heap_setCell w a v b hb)
theorem MapIs.drew {w : World} {b : Nat} {enc : K → Value} {encv : V → Value} {l : List (K × V)} (h : MapIs w b enc encv l) : MapIs w.drew b enc encv l := h
theorem MapIs.made (w : World) (enc : K → Value) (encv : V → Value) : MapIs (w.alloc (.map #[] 0)) w.heap.size enc encv ([] : List (K × V)) :=
  ⟨#[], 0, blk_new w _, by simp, by simp, by simp, by simp, by simp⟩
theorem findIdx_val [DecidableEq K] {l : List (K × V)} {es : List MapEntry} {encv : V → Value} (hv : es.map (·.val) = l.map (fun p => encv p.2)) (k : K) :
    (((l.map (·.1)).findIdx? (fun x => decide (x = k))).bind fun i => (es[i]?).map fun e => (i, e.val)) = ((l.findIdx? (fun p => decide (p.1 = k))).bind fun i => (l[i]?).map fun p => (i, encv p.2)) := by
  rw [List.findIdx?_map]
  have : ((fun x => decide (x = k)) ∘ fun (p : K × V) => p.1) = fun p => decide (p.1 = k) := rfl
  rw [this]
  cases hi : l.findIdx? (fun p => decide (p.1 = k)) with
  | none => rfl
  | some i =>
    have e := congrArg (fun m => m[i]?) hv
    simp only [List.getElem?_map] at e
    simp only [Option.bind_some]
    cases h1 : es[i]? <;> cases h2 : l[i]? <;> simp_all
theorem mget_findIdx [DecidableEq K] (l : List (K × V)) (k : K) : ((l.findIdx? (fun p => decide (p.1 = k))).bind fun i => (l[i]?).map fun p => p.2) = mget l k := by
  unfold mget
  induction l with
  | nil => rfl
  | cons p l ih =>
    by_cases hp : p.1 = k
    · simp [List.findIdx?_cons, hp]
    · simp only [List.findIdx?_cons, hp, decide_false, List.find?_cons]
      rw [← ih]
      cases l.findIdx? (fun p => decide (p.1 = k)) <;> simp
variable {P : Program} {kt et t : TypeId} {enc : K → Value} {encv : V → Value} {w : World} {b : Nat} {l : List (K × V)}
/-- 'v, ok := m[k]', 'm[k]'. -/
theorem MapIs.look [DecidableEq K] (h : MapIs w b enc encv l) (ok : KeyOK P kt enc) (ht : P.underlying t = some (.map kt et)) {z : Value} (hz : (zeroValue et).run P w = .ok z w) (k : K) (c : Bool) :
    (Instr.lookup t (.map (some b)) (enc k) c).run P w = .ok (match mget l k with | some v => (if c then .tuple #[encv v, .bool true] else encv v) | none => (if c then .tuple #[z, .bool false] else z)) w := by
  obtain ⟨arr, clock, hb, hk, hv, hn, _⟩ := h
  have hf := ok.find w k arr.toList (l.map (·.1)) (by rw [hk, List.map_map]; rfl)
  rw [findIdx_val hv] at hf
  have hm := mget_findIdx l k
  cases hi : l.findIdx? (fun p => decide (p.1 = k)) with
  | none =>
    rw [hi] at hf hm
    simp only [Option.bind_none] at hf hm
    rw [← hm]
    cases c <;> simp [Instr.lookup, run_underlying ht, MapKept.run_getObj_map hb, ok.check, hf, hz, Result.andThen]
  | some i =>
    rw [hi] at hf hm
    have hlt := List.findIdx?_eq_some_iff_getElem.1 hi
    obtain ⟨hlt, _⟩ := hlt
    simp only [Option.bind_some, List.getElem?_eq_getElem hlt, Option.map_some] at hf hm
    rw [← hm]
    cases c <;> simp [Instr.lookup, run_underlying ht, MapKept.run_getObj_map hb, ok.check, hf, Result.andThen]
/-- 'len(m)'. -/
theorem MapIs.len (h : MapIs w b enc encv l) (ht : P.underlying t = some (.map kt et)) (ty : TypeId) : (Builtin.len_ #[t] ty #[.map (some b)]).run P w = .ok (.int .i64 l.length) w := by
  obtain ⟨arr, clock, hb, hk, _⟩ := h
  have e : arr.size = l.length := by have := congrArg List.length hk; simpa using this
  simp [Builtin.len_, run_underlying ht, MapKept.run_getObj_map hb, goInt, Result.andThen, e]
theorem run_setObj_map {es : Array MapEntry} {c : Nat} (hb : w.heap[b]? = some (.map es c)) (o : Obj) : (setObj b o).run P w = .ok () (ChangeMaps.setBlock w b o) := by
  simp [setObj, Sem.run, hb, ChangeMaps.setBlock]
theorem grown_setBlock {es : Array MapEntry} {c : Nat} (_hb : w.heap[b]? = some (.map es c)) (o : Obj) : w.grownBy (ChangeMaps.setBlock w b o) (some b) :=
  ⟨rfl, rfl, rfl, by simp [ChangeMaps.setBlock], fun i _ hi => ChangeMaps.heap_setBlock_other _hb _ (fun e => hi (by rw [e]))⟩
theorem mput_at [DecidableEq K] {l : List (K × V)} (hn : (l.map (·.1)).Nodup) {k : K} {i : Nat} (hi : l.findIdx? (fun p => decide (p.1 = k)) = some i) (v : V) : mput l k v = l.set i (k, v) := by
  obtain ⟨hlt, hk, _⟩ := List.findIdx?_eq_some_iff_getElem.1 hi
  have hk : l[i].1 = k := by simpa using hk
  unfold mput
  rw [if_pos (List.any_eq_true.2 ⟨l[i], List.getElem_mem _, by simp [hk]⟩)]
  apply List.ext_getElem (by simp)
  intro j h1 h2
  simp only [List.getElem_map, List.getElem_set]
  have h1' : j < l.length := by simpa using h1
  by_cases hij : i = j
  · subst hij; simp [hk]
  · rw [if_neg hij, if_neg]
    intro hj
    apply hij
    have := (List.getElem_inj (h₀ := by simpa using hlt) (h₁ := by simpa using h1') hn).1 (show (l.map (·.1))[i]'(by simpa using hlt) = (l.map (·.1))[j]'(by simpa using h1') by simp [hk, hj])
    exact this
theorem map_erase {α β : Type} (f : α → β) : ∀ (l : List α) (i : Nat), (l.eraseIdx i).map f = (l.map f).eraseIdx i
  | [], _ => by simp
  | _ :: _, 0 => by simp
  | x :: l, i + 1 => by simp [map_erase f l i]
theorem mdel_at [DecidableEq K] {l : List (K × V)} (hn : (l.map (·.1)).Nodup) {k : K} {i : Nat} (hi : l.findIdx? (fun p => decide (p.1 = k)) = some i) : mdel l k = l.eraseIdx i := by
  unfold mdel
  induction l generalizing i with
  | nil => simp at hi
  | cons p l ih =>
    rw [List.map_cons, List.nodup_cons] at hn
    rw [List.findIdx?_cons] at hi
    by_cases hp : p.1 = k
    · simp [hp] at hi
      subst hi
      simp only [List.eraseIdx_zero, List.tail_cons]
      rw [List.filter_cons]
      simp only [hp, decide_true, Bool.not_true]
      rw [if_neg (by simp)]
      rw [List.filter_eq_self]
      intro q hq
      simp only [Bool.not_eq_true', decide_eq_false_iff_not]
      intro hqk
      exact hn.1 (List.mem_map.2 ⟨q, hq, by rw [hqk, hp]⟩)
    · simp only [hp, decide_false] at hi
      cases hj : l.findIdx? (fun p => decide (p.1 = k)) with
      | none => simp [hj] at hi
      | some j =>
        simp [hj] at hi
        subst hi
        rw [List.filter_cons, if_pos (by simp [hp]), List.eraseIdx_cons_succ, ih hn.2 hj]
theorem mdel_none [DecidableEq K] {l : List (K × V)} {k : K} (hi : l.findIdx? (fun p => decide (p.1 = k)) = none) : mdel l k = l := by
  unfold mdel
  rw [List.filter_eq_self]
  intro q hq
  have := List.findIdx?_eq_none_iff.1 hi q hq
  simpa using this
/-- 'm[k] = v'. -/
theorem MapIs.store [DecidableEq K] (h : MapIs w b enc encv l) (ok : KeyOK P kt enc) (ht : P.underlying t = some (.map kt et)) (k : K) (v : V) :
    ∃ w', (Instr.mapUpdate t (.map (some b)) (enc k) (encv v)).run P w = .ok () w' ∧ MapIs w' b enc encv (mput l k v) ∧ w.grownBy w' (some b) := by
  obtain ⟨arr, clock, hb, hk, hv, hn, hp, hc⟩ := h
  have hf := ok.find w k arr.toList (l.map (·.1)) (by rw [hk, List.map_map]; rfl)
  rw [findIdx_val hv] at hf
  cases hi : l.findIdx? (fun p => decide (p.1 = k)) with
  | none =>
    rw [hi] at hf
    simp only [Option.bind_none] at hf
    refine ⟨ChangeMaps.setBlock w b (.map (arr.push { key := enc k, val := encv v, born := clock }) (clock + 1)), ?_, ⟨_, _, ChangeMaps.heap_setBlock_same hb _, ?_, ?_, mput_nodup hn k v, ?_, ?_⟩, grown_setBlock hb _⟩
    · simp [Instr.mapUpdate, run_underlying ht, MapKept.run_getObj_map hb, ok.check, hf, Result.andThen, run_setObj_map hb]
    · have e : mput l k v = l ++ [(k, v)] := mput_new v (by rw [← mget_findIdx, hi]; rfl)
      rw [e]; simp [hk]
    · have e : mput l k v = l ++ [(k, v)] := mput_new v (by rw [← mget_findIdx, hi]; rfl)
      rw [e]; simp [hv]
    · rw [Array.toList_push, List.pairwise_append]
      exact ⟨hp, by simp, fun a ha b hb' => by simp at hb'; subst hb'; exact hc a ha⟩
    · intro x hx
      rw [Array.toList_push] at hx
      rcases List.mem_append.1 hx with hx | hx
      · exact Nat.lt_succ_of_lt (hc x hx)
      · simp at hx; subst hx; exact Nat.lt_succ_self _
  | some i =>
    obtain ⟨hlt, hki, _⟩ := List.findIdx?_eq_some_iff_getElem.1 hi
    have hki : l[i].1 = k := by simpa using hki
    rw [hi] at hf
    simp only [Option.bind_some, List.getElem?_eq_getElem hlt, Option.map_some] at hf
    have hlen : arr.size = l.length := by have := congrArg List.length hk; simpa using this
    have hkey : ((arr[i]?).map (·.key)).getD (enc k) = enc k := by
      have e := congrArg (fun m => m[i]?) hk
      simp only [List.getElem?_map, List.getElem?_eq_getElem hlt, Option.map_some, hki, Array.getElem?_toList] at e
      rw [e]; rfl
    refine ⟨ChangeMaps.setBlock w b (.map (arr.modify i fun e => { e with key := enc k, val := encv v }) clock), ?_, ⟨_, _, ChangeMaps.heap_setBlock_same hb _, ?_, ?_, mput_nodup hn k v, ?_, ?_⟩, grown_setBlock hb _⟩
    · simp [Instr.mapUpdate, run_underlying ht, MapKept.run_getObj_map hb, ok.check, hf, Result.andThen, run_setObj_map hb, hkey, ok.stays]
    · rw [mput_at hn hi v]
      apply List.ext_getElem?
      intro j
      have e := congrArg (fun m => m[j]?) hk
      simp only [List.getElem?_map, Array.getElem?_toList] at e
      simp only [Array.toList_modify, List.getElem?_map, List.getElem?_modify, List.getElem?_set, Array.getElem?_toList]
      by_cases hij : i = j
      · subst hij; simp [hlt, hlen]
      · simp [hij, e]
    · rw [mput_at hn hi v]
      apply List.ext_getElem?
      intro j
      have e := congrArg (fun m => m[j]?) hv
      simp only [List.getElem?_map, Array.getElem?_toList] at e
      simp only [Array.toList_modify, List.getElem?_map, List.getElem?_modify, List.getElem?_set, Array.getElem?_toList]
      by_cases hij : i = j
      · subst hij; simp [hlt, hlen]
      · simp [hij, e]
    · have e : (arr.modify i fun e => { e with key := enc k, val := encv v }).toList.map (·.born) = arr.toList.map (·.born) := by
        apply List.ext_getElem?
        intro j
        simp only [Array.toList_modify, List.getElem?_map, List.getElem?_modify]
        by_cases hij : i = j <;> cases arr.toList[j]? <;> simp [hij]
      rw [← List.pairwise_map (f := MapEntry.born) (R := (· < ·)), e, List.pairwise_map]
      exact hp
    · intro x hx
      have e : (arr.modify i fun e => { e with key := enc k, val := encv v }).toList.map (·.born) = arr.toList.map (·.born) := by
        apply List.ext_getElem?
        intro j
        simp only [Array.toList_modify, List.getElem?_map, List.getElem?_modify]
        by_cases hij : i = j <;> cases arr.toList[j]? <;> simp [hij]
      have := List.mem_map_of_mem (f := MapEntry.born) hx
      rw [e] at this
      obtain ⟨y, hy, he⟩ := List.mem_map.1 this
      rw [← he]
      exact hc y hy
/-- 'delete(m, k)'. -/
theorem MapIs.drop [DecidableEq K] (h : MapIs w b enc encv l) (ok : KeyOK P kt enc) (ht : P.underlying t = some (.map kt et)) (k : K) (ty : TypeId) :
    ∃ w', (Builtin.delete_ #[t, kt] ty #[.map (some b), enc k]).run P w = .ok (.tuple #[]) w' ∧ MapIs w' b enc encv (mdel l k) ∧ w.grownBy w' (some b) := by
  obtain ⟨arr, clock, hb, hk, hv, hn, hp, hc⟩ := h
  have hf := ok.find w k arr.toList (l.map (·.1)) (by rw [hk, List.map_map]; rfl)
  rw [findIdx_val hv] at hf
  cases hi : l.findIdx? (fun p => decide (p.1 = k)) with
  | none =>
    rw [hi] at hf
    simp only [Option.bind_none] at hf
    refine ⟨ChangeMaps.setBlock w b (.map arr clock), ?_, ⟨arr, clock, ChangeMaps.heap_setBlock_same hb _, ?_, ?_, mdel_nodup hn k, hp, hc⟩, grown_setBlock hb _⟩
    · simp [Builtin.delete_, run_underlying ht, MapKept.run_getObj_map hb, ok.check, hf, Result.andThen, run_setObj_map hb]
    · rw [mdel_none hi, hk]
    · rw [mdel_none hi, hv]
  | some i =>
    obtain ⟨hlt, hki, _⟩ := List.findIdx?_eq_some_iff_getElem.1 hi
    rw [hi] at hf
    simp only [Option.bind_some, List.getElem?_eq_getElem hlt, Option.map_some] at hf
    have hlen : arr.size = l.length := by have := congrArg List.length hk; simpa using this
    have hia : i < arr.size := by omega
    have et : (arr.eraseIdxIfInBounds i).toList = arr.toList.eraseIdx i := by simp [Array.eraseIdxIfInBounds, hia]
    refine ⟨ChangeMaps.setBlock w b (.map (arr.eraseIdxIfInBounds i) clock), ?_, ⟨_, clock, ChangeMaps.heap_setBlock_same hb _, ?_, ?_, mdel_nodup hn k, ?_, ?_⟩, grown_setBlock hb _⟩
    · simp [Builtin.delete_, run_underlying ht, MapKept.run_getObj_map hb, ok.check, hf, Result.andThen, run_setObj_map hb]
    · rw [et, mdel_at hn hi, map_erase, hk, map_erase]
    · rw [et, mdel_at hn hi, map_erase, hv, map_erase]
    · rw [et]; exact List.Pairwise.sublist (List.eraseIdx_sublist _ _) hp
    · intro x hx
      rw [et] at hx
      exact hc x (List.mem_of_mem_eraseIdx hx)
end
/-! ### the laws at the operation -/
section
variable {K V : Type} [DecidableEq K] {P : Program} (w : World) {ops : Array Oper} {rest : List Oper} {o : Oper} {a : Act} {Q : Exit → Act → World → Prop}
  {kt et : TypeId} {enc : K → Value} {encv : V → Value} {l : List (K × V)}
theorem wpList_look_some (hg : o.guard = none) (m x : Operand) (t : TypeId) (hop : o.op = Op.lookup t m x true) (ok : KeyOK P kt enc) (ht : P.underlying t = some (.map kt et))
    (b : Nat) (hm : a.eval m = .map (some b)) (h : MapIs w b enc encv l) (k : K) (hx : a.eval x = enc k) {z : Value} (hz : (zeroValue et).run P w = .ok z w) {v : V} (hv : mget l k = some v)
    (hK : wpList P ops Q rest (a.put o.dst (.tuple #[encv v, .bool true])) w) : wpList P ops Q (o :: rest) a w := by
  refine wpList_plain hg fun K' hK' => ?_
  have hrun := h.look ok ht hz k true
  rw [hv] at hrun
  unfold Oper.wp
  simp only [if_true] at hrun
  simp [execOp, hop, hm, hx, hrun, Result.andThen]
  exact hK' _ _ hK
theorem wpList_look_none (hg : o.guard = none) (m x : Operand) (t : TypeId) (hop : o.op = Op.lookup t m x true) (ok : KeyOK P kt enc) (ht : P.underlying t = some (.map kt et))
    (b : Nat) (hm : a.eval m = .map (some b)) (h : MapIs w b enc encv l) (k : K) (hx : a.eval x = enc k) {z : Value} (hz : (zeroValue et).run P w = .ok z w) (hv : mget l k = none)
    (hK : wpList P ops Q rest (a.put o.dst (.tuple #[z, .bool false])) w) : wpList P ops Q (o :: rest) a w := by
  refine wpList_plain hg fun K' hK' => ?_
  have hrun := h.look ok ht hz k true
  rw [hv] at hrun
  unfold Oper.wp
  simp only [if_true] at hrun
  simp [execOp, hop, hm, hx, hrun, Result.andThen]
  exact hK' _ _ hK
theorem wpList_get_some (hg : o.guard = none) (m x : Operand) (t : TypeId) (hop : o.op = Op.lookup t m x false) (ok : KeyOK P kt enc) (ht : P.underlying t = some (.map kt et))
    (b : Nat) (hm : a.eval m = .map (some b)) (h : MapIs w b enc encv l) (k : K) (hx : a.eval x = enc k) {z : Value} (hz : (zeroValue et).run P w = .ok z w) {v : V} (hv : mget l k = some v)
    (hK : wpList P ops Q rest (a.put o.dst (encv v)) w) : wpList P ops Q (o :: rest) a w := by
  refine wpList_plain hg fun K' hK' => ?_
  have hrun := h.look ok ht hz k false
  rw [hv] at hrun
  unfold Oper.wp
  simp only [Bool.false_eq_true, if_false] at hrun
  simp [execOp, hop, hm, hx, hrun, Result.andThen]
  exact hK' _ _ hK
theorem wpList_get_none (hg : o.guard = none) (m x : Operand) (t : TypeId) (hop : o.op = Op.lookup t m x false) (ok : KeyOK P kt enc) (ht : P.underlying t = some (.map kt et))
    (b : Nat) (hm : a.eval m = .map (some b)) (h : MapIs w b enc encv l) (k : K) (hx : a.eval x = enc k) {z : Value} (hz : (zeroValue et).run P w = .ok z w) (hv : mget l k = none)
    (hK : wpList P ops Q rest (a.put o.dst z) w) : wpList P ops Q (o :: rest) a w := by
  refine wpList_plain hg fun K' hK' => ?_
  have hrun := h.look ok ht hz k false
  rw [hv] at hrun
  unfold Oper.wp
  simp only [Bool.false_eq_true, if_false] at hrun
  simp [execOp, hop, hm, hx, hrun, Result.andThen]
  exact hK' _ _ hK
theorem wpList_mstore (hg : o.guard = none) (m x y : Operand) (t : TypeId) (hop : o.op = Op.mapUpdate t m x y) (ok : KeyOK P kt enc) (ht : P.underlying t = some (.map kt et))
    (b : Nat) (hm : a.eval m = .map (some b)) (h : MapIs w b enc encv l) (k : K) (hx : a.eval x = enc k) (v : V) (hy : a.eval y = encv v)
    (hK : ∀ w', MapIs w' b enc encv (mput l k v) → w.grownBy w' (some b) → wpList P ops Q rest (a.put o.dst undef) w') : wpList P ops Q (o :: rest) a w := by
  refine wpList_plain hg fun K' hK' => ?_
  obtain ⟨w', hrun, h1, h2⟩ := h.store ok ht k v
  unfold Oper.wp
  simp [execOp, hop, hm, hx, hy, hrun, Result.andThen]
  exact hK' _ _ (hK w' h1 h2)
theorem wpList_mdelete (hg : o.guard = none) (m x : Operand) (t : TypeId) (hop : o.op = .call { callee := .builtin .delete, args := #[m, x], argTypes := #[t, kt] }) (ok : KeyOK P kt enc) (ht : P.underlying t = some (.map kt et))
    (b : Nat) (hm : a.eval m = .map (some b)) (h : MapIs w b enc encv l) (k : K) (hx : a.eval x = enc k)
    (hK : ∀ w', MapIs w' b enc encv (mdel l k) → w.grownBy w' (some b) → wpList P ops Q rest (a.put o.dst (.tuple #[])) w') : wpList P ops Q (o :: rest) a w := by
  refine wpList_plain hg fun K' hK' => ?_
  obtain ⟨w', hrun, h1, h2⟩ := h.drop ok ht k o.type
  unfold Oper.wp
  simp [execOp, hop, hm, hx, hrun, Result.andThen, resolve, invoke, builtin]
  exact hK' _ _ (hK w' h1 h2)
end
theorem wpList_mlen {K V : Type} {P : Program} (w : World) {ops : Array Oper} {rest : List Oper} {o : Oper} {a : Act} {Q : Exit → Act → World → Prop} {kt et : TypeId} {enc : K → Value} {encv : V → Value} {l : List (K × V)}
    (hg : o.guard = none) (m : Operand) (t : TypeId) (hop : o.op = .call { callee := .builtin .len, args := #[m], argTypes := #[t] }) (ht : P.underlying t = some (.map kt et))
    (b : Nat) (hm : a.eval m = .map (some b)) (h : MapIs w b enc encv l) (hK : wpList P ops Q rest (a.put o.dst (.int .i64 l.length)) w) : wpList P ops Q (o :: rest) a w := by
  refine wpList_plain hg fun K' hK' => ?_
  unfold Oper.wp
  simp [execOp, hop, hm, h.len ht o.type, Result.andThen, resolve, invoke, builtin]
  exact hK' _ _ hK
/-! ### keys -/
@[simp] def encInt (n : Int) : Value := .int .i64 n
@[simp] def encStr (s : ByteArray) : Value := .string s
theorem sameNow_int (kt : IntKind) (a b : Int) : Instr.sameNow (.int kt) (.int .i64 a) (.int .i64 b) = some (decide (a = b)) := by
  simp [Instr.sameNow]
  rw [Bool.eq_iff_iff]; simp
theorem findNow_is {K : Type} [DecidableEq K] {kind : TypeDesc} {enc : K → Value} (hs : ∀ a b, Instr.sameNow kind (enc a) (enc b) = some (decide (a = b))) (k : K) : ∀ (es : List MapEntry) (ks : List K) (i : Nat), es.map (·.key) = ks.map enc →
    Instr.findNow kind (enc k) es i = some ((ks.findIdx? (fun x => decide (x = k))).bind fun j => (es[j]?).map fun e => (i + j, e.val))
  | [], [], i, _ => by simp [Instr.findNow]
  | [], _ :: _, _, h => by simp at h
  | _ :: _, [], _, h => by simp at h
  | e :: es, x :: ks, i, h => by
    simp only [List.map_cons, List.cons.injEq] at h
    unfold Instr.findNow
    rw [h.1, hs]
    by_cases hx : x = k
    · subst hx
      rw [List.findIdx?_cons]
      simp
    · have hx' : ¬ k = x := fun e => hx e.symm
      simp only [hx', decide_false]
      rw [findNow_is hs k es ks (i + 1) h.2]
      rw [List.findIdx?_cons]
      simp only [hx, decide_false]
      cases ks.findIdx? (fun x => decide (x = k)) with
      | none => rfl
      | some j =>
        simp
        cases es[j]? <;> simp; omega
theorem keyOK_of {K : Type} [DecidableEq K] {P : Program} {kt : TypeId} {kind : TypeDesc} {enc : K → Value} (hk : P.underlying kt = some kind) (hs : ∀ a b, Instr.sameNow kind (enc a) (enc b) = some (decide (a = b)))
    (hc : ∀ (w : World) em k, (Instr.checkKey em 10000 kt (enc k)).run P w = .ok () w) (hb : ∀ k, Instr.sameBits 10000 (enc k) (enc k) = true) : KeyOK P kt enc where
  check := hc
  find := by
    intro w k es ks h
    have := findNow_is hs k es ks 0 h
    simp only [Nat.zero_add] at this
    simp [Instr.findKey, run_underlying hk, this, Result.andThen]
  stays := by
    intro w k
    simp [Instr.keyThatStays, hb]
theorem bytes_beq (a b : ByteArray) : (a == b) = decide (a = b) := by
  rw [Bool.eq_iff_iff, decide_eq_true_iff]
  constructor
  · intro h
    have : (a.data == b.data) = true := h
    cases a; cases b
    simp at this
    rw [this]
  · rintro rfl
    show (a.data == a.data) = true
    simp
theorem check_int {P : Program} {kt : TypeId} {k : IntKind} (hk : P.underlying kt = some (.int k)) (em : Bool) (n : Nat) (v : Value) (w : World) : (Instr.checkKey em (n + 1) kt v).run P w = .ok () w := by
  simp [Instr.checkKey, run_underlying hk, Result.andThen]
theorem check_str {P : Program} {kt : TypeId} (hk : P.underlying kt = some .string) (em : Bool) (n : Nat) (v : Value) (w : World) : (Instr.checkKey em (n + 1) kt v).run P w = .ok () w := by
  simp [Instr.checkKey, run_underlying hk, Result.andThen]
theorem intKey {P : Program} {kt : TypeId} (hk : P.underlying kt = some (.int .i64)) : KeyOK P kt encInt :=
  keyOK_of hk (fun a b => sameNow_int _ a b) (fun w em _ => check_int hk em 9999 _ w) (fun k => by
    have : ∀ n, Instr.sameBits n (encInt k) (encInt k) = true := fun n => by cases n <;> simp [Instr.sameBits, encInt]
    exact this _)
theorem strKey {P : Program} {kt : TypeId} (hk : P.underlying kt = some .string) : KeyOK P kt encStr :=
  keyOK_of hk (fun a b => by simp only [Instr.sameNow, encStr, bytes_beq]) (fun w em _ => check_str hk em 9999 _ w) (fun k => by
    have : ∀ n, Instr.sameBits n (encStr k) (encStr k) = true := fun n => by cases n <;> simp [Instr.sameBits, encStr, bytes_beq]
    exact this _)
/-! ### a region that draws its order, all of whose operations but the last ones only read -/
theorem wp_tail {P : Program} {id : Nat} {Q : Exit → Act → World → Prop} {a : Act} {w : World} {l : List Oper} (n : Nat) (hm : P.follows .mixedOrders = true) (hB : Region.lexTailB .any l.toArray n = true)
    (h : ∀ w2 : World, (∀ x, w2.cell? x = w.cell? x) → (∀ x, w2.frozen? x = w.frozen? x) → Hid (w2.heap = w.heap) → Hid (∀ B w0, Below B w0 w → Below B w0 w2) →
      wpStill P l.toArray w2 (fun a' => wpList P l.toArray Q (l.drop n) a' w2) (l.take n) a) : (Code.region id l.toArray true).wp P Q a w :=
  wp_region_still_tail n hm hB (h _ (fun _ => rfl) (fun _ => rfl) rfl (fun _ _ hb => ⟨hb.os, hb.tape, hb.output, hb.size, hb.block⟩))
end Go.Proofs.Ytpijbdddegbjbaa
