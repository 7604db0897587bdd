/- slices.Sorted(maps.Keys(m)) at a map from int that reads as a list of keys and elements. Condition: the keys are ints, and there are not too many. -/
import Derived.Test.YtpijbdddegbjbaaProg
import Derived.Test.YtpijbdddegbjbaaMem
import Derived.Test.YtpijbdddegbjbaaShelf
namespace Go.Proofs.Ytpijbdddegbjbaa
open Go.RowKit Go.Proofs Go.Maps Go.Sort Go.Shelf
theorem ownsMap_of_is {P : Program} {kt : TypeId} (hk : P.underlying kt = some (.int .i64)) {V : Type} {encv : V → Value} {w : World} {b : Nat} {l : List (Int × V)} (h : MapIs w b encInt encv l)
    (hw : ∀ p ∈ l, (Lit.int .i64 p.1).wf = true) (hn : l.length ≤ maxLen) :
    ∃ D : DataW Unit, w.ownsMap P kt (fun _ => some (.agg [], [])) b l.length D ∧ (intKeys D).Perm (l.map (·.1)) ∧ Maps.size D = l.length := by
  obtain ⟨arr, clock, hb, hkey, hval, hnd, hp, hc⟩ := h
  have hlen : arr.size = l.length := by have := congrArg List.length hkey; simpa using this
  have hrd : ∀ x ∈ arr.toList, ∃ p ∈ l, x.key = encInt p.1 := fun x hx => by
    have := List.mem_map_of_mem (f := MapEntry.key) hx
    rw [hkey] at this
    obtain ⟨p, hp, he⟩ := List.mem_map.1 this
    exact ⟨p, hp, he.symm⟩
  have hr : ∀ x ∈ arr.toList, ∃ n, x.key = .int .i64 n ∧ WideElems.rd P kt (fun _ => some ((DataW.agg [] : DataW Unit), [])) x = some (.int .i64 n, .agg []) := fun x hx => by
    obtain ⟨p, hpl, he⟩ := hrd x hx
    refine ⟨p.1, he, ?_⟩
    simp only [WideElems.rd, he, encInt, Maps.keyOf_int_mk hk (hw p hpl)]
    rfl
  have hsame : (arr.toList.map fun x => Go.intOf (WideElems.rg P kt (fun _ => some ((DataW.agg [] : DataW Unit), [])) x).1) = l.map (·.1) := by
    have e : ∀ x ∈ arr.toList, Value.int .i64 (Go.intOf (WideElems.rg P kt (fun _ => some ((DataW.agg [] : DataW Unit), [])) x).1) = x.key := fun x hx => by
      obtain ⟨n, h1, h2⟩ := hr x hx
      rw [WideElems.rg_of h2, h1]
      rfl
    have e2 : (arr.toList.map fun x => Value.int .i64 (Go.intOf (WideElems.rg P kt (fun _ => some ((DataW.agg [] : DataW Unit), [])) x).1)) = (l.map (·.1)).map (Value.int .i64) := by
      rw [List.map_congr_left e, hkey, List.map_map]
      rfl
    have inj : ∀ (a b : List Int), a.map (Value.int .i64) = b.map (Value.int .i64) → a = b := by
      intro a
      induction a with
      | nil => intro b hb; cases b with
        | nil => rfl
        | cons y b => simp at hb
      | cons x a ih => intro b hb; cases b with
        | nil => simp at hb
        | cons y b =>
          simp only [List.map_cons, List.cons.injEq, Value.int.injEq, true_and] at hb
          rw [hb.1, ih b hb.2]
    apply inj
    rw [← e2, List.map_map]
    rfl
  refine ⟨.map ((arr.toList.map (WideElems.rg P kt fun _ => some (.agg [], []))).foldr DataW.insert []), ⟨arr, clock, hb, ⟨by omega, ⟨hc, ?_, ?_⟩, fun x hx => ?_⟩, by omega, rfl⟩, ?_, ?_⟩
  · rw [List.nodup_iff_pairwise_ne, List.pairwise_map]
    exact hp.imp (fun h => Nat.ne_of_lt h)
  · rw [hkey]
    have : (l.map fun p => encInt p.1) = (l.map (·.1)).map (Value.int .i64) := by rw [List.map_map]; rfl
    rw [this, List.nodup_iff_pairwise_ne, List.pairwise_map]
    exact (List.nodup_iff_pairwise_ne.1 hnd).imp (fun h e => h (by simpa using e))
  · obtain ⟨n, _, h2⟩ := hr x hx
    exact ⟨_, h2⟩
  · show (List.map (fun (p : Lit × DataW Unit) => Go.intOf p.1) _).Perm _
    rw [← hsame]
    exact ((WideShapes.sorted_perm _).map _).trans (by rw [List.map_map]; exact List.Perm.refl _)
  · simp [Maps.size, length_sorted, hlen]
/-- slices.Sort's two contracts at this program, at the fence that asks nothing. -/
theorem sortsI (m : Nat) : AnyZI.SortsIn Try.prog Try.sortedI_ren Fence.wide m :=
  ⟨fun blk off cap ss W hH hblk hsz => callsIn_wide.2 (AnyM.slices_Sort_int Try.sortI blk off cap ss W hH hblk hsz),
   fun p cap W => callsIn_wide.2 (AnyM.slices_Sort_int_none Try.sortI p cap W)⟩
theorem keysI_in (mb : Option Nat) (W : World) : CallsIn Fence.wide 5 Try.prog 111 #[.map mb] W fun e w' => e = .returned (.func (.func 159) #[] #[.pointer (some ⟨W.heap.size, 0, none⟩)]) ∧ w' = W.alloc (.cells #[.map mb] 142) :=
  AnyZI.keys_in Try.keysI Fence.wide 5 trivial rfl mb W
set_option maxHeartbeats 1000000 in
theorem sortedI_in {H : Type} (b nn : Nat) (D0 : DataW H) (R : Value → Option (DataW H × List MemPlace)) (w : World) (hown : w.ownsMap Try.prog 3 R b nn D0) (hmax : Maps.size D0 ≤ maxLen) (hbytes : Maps.size D0 * 8 ≤ 140737488355328) :
    CallsIn Fence.wide 5 Try.prog 110 #[.func (.func 159) #[] #[.pointer (some ⟨w.heap.size, 0, none⟩)]] (w.alloc (.cells #[.map (some b)] 142)) fun e w' => ∃ (v : Value) (ss : List Int), e = .returned v ∧ ss.Perm (intKeys D0) ∧
      w'.ownsRow (w.alloc (.cells #[.map (some b)] 142)).heap.size 3 1 v ss.length ((ss.mergeSort (fun x y => decide (x ≤ y))).map encZ) ∧ (v = .slice none 0 0 ↔ ss = []) ∧ Below (w.alloc (.cells #[.map (some b)] 142)).heap.size (w.alloc (.cells #[.map (some b)] 142)) w' := by
  have hbl := hown.lt
  have hseq : SeqGives Fence.wide 2 Try.prog 159 #[.pointer (some ⟨w.heap.size, 0, none⟩)] encZ (fun ss => ss.Perm (intKeys D0)) (Maps.size D0) (w.alloc (.cells #[.map (some b)] 142)) :=
    AnyZI.keys_gives (ρ := Try.keysI_ren) { Try.keysI with } Fence.wide _ trivial rfl (by omega) w.heap.size b nn D0 _ (by simp) (by simp) (by
      obtain ⟨es, clock, hb, Ft, hs, hD⟩ := hown
      exact ⟨es, clock, (Below.heap_alloc _ _ b hbl).trans hb, Ft, hs, hD⟩)
  exact AnyZI.sorted_in Try.sortedI Fence.wide 5 trivial trivial trivial trivial rfl (by omega) (sortsI _) (enters_of Try.func158 (by kernel_rfl) rfl) 159 #[.pointer (some ⟨w.heap.size, 0, none⟩)] trivial (enters_of Try.func159 (by kernel_rfl) rfl) _ _ hmax hbytes _ hseq
/-- The keys of such a map, sorted. -/
def sortedKeys {V : Type} (l : List (Int × V)) : List Int := (l.map (·.1)).mergeSort (fun x y => decide (x ≤ y))
theorem sort_perm {a b : List Int} (h : a.Perm b) : a.mergeSort (fun x y => decide (x ≤ y)) = b.mergeSort (fun x y => decide (x ≤ y)) := by
  apply List.Perm.eq_of_pairwise (le := fun x y => x ≤ y) (fun a b _ _ h1 h2 => Int.le_antisymm h1 h2)
  · have := List.pairwise_mergeSort (le := fun (x y : Int) => decide (x ≤ y)) (fun a b c h1 h2 => by simp at *; omega) (fun a b => by simp; omega) a
    exact this.imp (by simp)
  · have := List.pairwise_mergeSort (le := fun (x y : Int) => decide (x ≤ y)) (fun a b c h1 h2 => by simp at *; omega) (fun a b => by simp; omega) b
    exact this.imp (by simp)
  · exact (List.mergeSort_perm a _).trans (h.trans (List.mergeSort_perm b _).symm)
theorem sortedI_ok {V : Type} {encv : V → Value} (b : Nat) (l : List (Int × V)) (w : World) (h : MapIs w b encInt encv l) (hw : ∀ p ∈ l, (Lit.int .i64 p.1).wf = true) (hn : l.length ≤ 1000000) :
    Calls Try.prog 110 #[.func (.func 159) #[] #[.pointer (some ⟨w.heap.size, 0, none⟩)]] (w.alloc (.cells #[.map (some b)] 142)) fun e w' => ∃ (v : Value), e = .returned v ∧
      w'.ownsRow (w.heap.size + 1) 3 1 v l.length ((sortedKeys l).map (Value.int .i64)) ∧ (v = .slice none 0 0 ↔ l = []) ∧ Below (w.heap.size + 1) (w.alloc (.cells #[.map (some b)] 142)) w' := by
  obtain ⟨D, hown, hperm, hsz⟩ := ownsMap_of_is Try.underlying3 h hw (by unfold maxLen; omega)
  have := callsIn_wide.1 (sortedI_in b l.length D _ w hown (by rw [hsz]; unfold maxLen; omega) (by omega))
  refine this.mono ?_
  rintro e w' ⟨v, ss, rfl, hss, hrow, hnil, hb⟩
  have hp := hss.trans hperm
  rw [sort_perm hp] at hrow
  have hlen : ss.length = l.length := by rw [hp.length_eq]; simp
  rw [hlen] at hrow
  refine ⟨v, rfl, by simpa [sortedKeys, World.size_alloc] using hrow, ?_, by simpa [World.size_alloc] using hb⟩
  rw [hnil]
  constructor
  · rintro rfl; simpa using hlen.symm
  · rintro rfl; simpa using hlen
end Go.Proofs.Ytpijbdddegbjbaa
