/- Contracts of package name: Labels, Check, Count. No condition but a bound on sizes. -/
import Derived.Test.YtpijbdddegbjbaaLabels
import Derived.ShutString
import Derived.Outline
namespace Go.Proofs.Ytpijbdddegbjbaa
open Go.RowKit Go.Proofs Go.Shelf
attribute [local go_sem] Oper.semAt_some
theorem infoStr : (Try.prog.info? 9).map (fun i => (i.zero, i.size, i.bytes)) = some (some (.string (sb [])), 1, 16) := by kernel_rfl
theorem keep_blk {W W' : World} {row : Option Nat} (hg : W.grownBy W' row) (hr : ∀ r, row = some r → ∃ o : Obj, W.heap[r]? = some o ∧ o.isCells = false) {b : Nat} {c : Array Value} {e : TypeId} {fr : Nat × Nat} (h : W.heap[b]? = some (.cells c e fr)) : W'.heap[b]? = some (.cells c e fr) := by
  refine (hg.block b (blk_lt h) ?_).trans h
  intro e'
  obtain ⟨o, ho, hc⟩ := hr b e'.symm
  rw [h] at ho; cases ho; cases hc
theorem keep_row {W W' : World} {row : Option Nat} (hg : W.grownBy W' row) (hr : ∀ r, row = some r → ∃ o : Obj, W.heap[r]? = some o ∧ o.isCells = false) {base : Nat} {e : TypeId} {size : Nat} {v : Value} {k : Nat} {xs : List Value} (h : W.ownsRow base e size v k xs) : W'.ownsRow base e size v k xs := by
  obtain ⟨h1, h2⟩ := h
  refine ⟨h1, ?_⟩
  rcases h2 with h2 | ⟨g, cap, cur, rfl, h2, h3, h4⟩
  · exact .inl h2
  · exact .inr ⟨g, cap, cur, rfl, h2, keep_blk hg hr h3, h4⟩
theorem own_lt {W : World} {base : Nat} {e : TypeId} {size : Nat} {v : Value} {k : Nat} {xs : List Value} (h : W.ownsRow base e size v k xs) : ∀ b, v.ownBlock = some b → base ≤ b ∧ ∃ o : Obj, W.heap[b]? = some o ∧ o.isCells = true := by
  intro b hb
  rcases h.2 with ⟨rfl, _⟩ | ⟨g, cap, cur, rfl, h2, h3, _⟩
  · cases hb
  · cases hb; exact ⟨h2, _, h3, rfl⟩
/-- A slice in a box below base is appended to, and stored back. -/
theorem box_app {W w1 : World} {base O : Nat} {t e : TypeId} {size : Nat} {v v' : Value} {k m : Nat} {xs ys : List Value} {tmp : Obj} (hv : Boxed W O t v) (hO : O < base) (hrow : W.ownsRow base e size v k xs) (hb : base ≤ W.heap.size)
    (hown' : w1.ownsRow base e size v' m ys) (hgrow : (W.alloc tmp).grownBy w1 v.ownBlock) :
    Boxed w1 O t v ∧ Boxed (w1.setCell ⟨O, 0, none⟩ v') O t v' ∧ (w1.setCell ⟨O, 0, none⟩ v').ownsRow base e size v' m ys ∧ KeepsOthers W (w1.setCell ⟨O, 0, none⟩ v') ∧ Below base W w1 := by
  have hne : ∀ b, v.ownBlock = some b → base ≤ b ∧ ∃ o : Obj, W.heap[b]? = some o ∧ o.isCells = true := own_lt hrow
  have hbel : Below base W w1 := ⟨hgrow.os, hgrow.tape, hgrow.output, Nat.le_trans (by simp) hgrow.size, fun b hb' => (hgrow.block b (by simp; omega) (fun e => by have := (hne b e.symm).1; omega)).trans (Below.heap_alloc _ _ _ (by omega))⟩
  have hv1 : Boxed w1 O t v := (hbel.block O hO).trans hv
  refine ⟨hv1, hv1.set v', ?_, ?_, hbel⟩
  · exact hown'.kept (grownBy_setCell' w1 O v') (.inr (fun e' => by
      have := (own_lt hown' O e').1; omega))
  · refine ((KeepsOthers.alloc W tmp).trans (KeepsOthers.of_grownBy hgrow fun j o ej hj => ?_)).trans (KeepsOthers.setCell _ _ _)
    obtain ⟨_, o', ho', hc'⟩ := hne j ej
    have : (W.alloc tmp).heap[j]? = some o' := (Below.heap_alloc _ _ _ (blk_lt ho')).trans ho'
    rw [hj] at this; cases this; exact hc'
/-- The labels, and why a name may not be. -/
def labs (l : List UInt8) : List (List UInt8) := (Steps l).map (·.1)
def fineS (l : List UInt8) : Bool := (Steps l).all (·.2)
def labErr (l : List UInt8) : Int := if fineS l = false then 4 else if 255 < l.length then 3 else 0
def encLab (x : List UInt8) : Value := .string (sb x)
theorem steps_len (l : List UInt8) : (Steps l).length ≤ l.length + 1 := by
  induction l using Steps.induct with
  | case1 => simp [Steps]
  | case2 c r h => rw [Steps, if_pos h]; simp
  | case3 c r h1 h2 => rw [Steps, if_neg h1, if_pos h2]; simp
  | case4 c r h1 h2 ih => rw [Steps, if_neg h1, if_neg h2]; simp at ih ⊢; omega
set_option maxRecDepth 100000 in
set_option maxHeartbeats 2000000 in
theorem labels_in (s : ByteArray) (w : World) (hs : s.size ≤ 1000000000) :
    CallsIn Fence.wide 21 Try.prog 147 #[.string s] w fun e w' => ∃ v, e = .returned (.tuple #[v, .int .i64 (labErr (bl s))]) ∧ (labErr (bl s) = 0 → w'.ownsRow w.heap.size 9 1 v (labs (bl s)).length ((labs (bl s)).map encLab)) ∧ (labErr (bl s) ≠ 0 → v = .slice none 0 0) ∧ Below w.heap.size w w' := by
  obtain ⟨i0, hi, hz0, hz1, hz2⟩ := info_parts infoStr
  refine callsIn_of_wp_marks Try.func147 rfl trivial ?_ rfl
  simp only [Try.ntmps147, List.size_toArray, List.length_cons, List.length_nil, Nat.reduceAdd, Nat.reduceSub, Array.replicate_succ, Array.replicate_zero, List.push_toArray, List.append_toArray, List.nil_append, List.cons_append]
  gi_wp2_with (refine ⟨trivial, ?_⟩; gi_at_call 186; refine (nAll_ok _ s _).mono ?_; rintro e w' ⟨rfl, rfl⟩)
  have hz : ((((w.alloc (.cells #[.slice none 0 0] 44)).alloc (.cells #[.int .i64 0] 29)).alloc (.cells #[.slice none 0 0] 44)).alloc (.cells #[.string s] 9)).heap.size = w.heap.size + 4 := by simp
  have hB0 : Below w.heap.size w ((((w.alloc (.cells #[.slice none 0 0] 44)).alloc (.cells #[.int .i64 0] 29)).alloc (.cells #[.slice none 0 0] 44)).alloc (.cells #[.string s] 9)) :=
    ((((Below.refl _ w).alloc (Nat.le_refl _) _).alloc (by simp) _).alloc (by simp; omega) _).alloc (by simp; omega) _
  have b0 := Boxed.new w 44 (.slice none 0 0)
  have b1 := Boxed.new (w.alloc (.cells #[.slice none 0 0] 44)) 29 (.int .i64 0)
  have b2 := Boxed.new ((w.alloc (.cells #[.slice none 0 0] 44)).alloc (.cells #[.int .i64 0] 29)) 44 (.slice none 0 0)
  have b3 := Boxed.new (((w.alloc (.cells #[.slice none 0 0] 44)).alloc (.cells #[.int .i64 0] 29)).alloc (.cells #[.slice none 0 0] 44)) 9 (.string s)
  simp only [World.size_alloc] at b1 b2 b3
  have c0 := ((b0.alloc (.cells #[.int .i64 0] 29)).alloc (.cells #[.slice none 0 0] 44)).alloc (.cells #[.string s] 9)
  have c1 := (b1.alloc (.cells #[.slice none 0 0] 44)).alloc (.cells #[.string s] 9)
  have c2 := b2.alloc (.cells #[.string s] 9)
  generalize ((((w.alloc (.cells #[.slice none 0 0] 44)).alloc (.cells #[.int .i64 0] 29)).alloc (.cells #[.slice none 0 0] 44)).alloc (.cells #[.string s] 9)) = w4 at *
  clear b0 b1 b2
  refine wpIn_rangeFunc_box rfl (by omega) (gf := 217) (lb := #[.pointer (some ⟨w.heap.size + 3, 0, none⟩)]) rfl trivial (enters_of Try.func217 (by kernel_rfl) rfl)
    (all1_box (21 - 1) (by omega) (w.heap.size + 3) s w4 hs b3) (Below.refl _ _) (by omega) (fun _ => rfl)
    (fun pre W => (∀ x ∈ pre, x.2 = true) ∧ (∃ v, Boxed W (w.heap.size + 2) 44 v ∧ W.ownsRow (w.heap.size + 4) 9 1 v pre.length (pre.map fun x => encLab x.1)) ∧ Boxed W w.heap.size 44 (.slice none 0 0) ∧ Boxed W (w.heap.size + 1) 29 (.int .i64 0) ∧ Below w.heap.size w W ∧ w.heap.size + 4 ≤ W.heap.size)
    (fun pre W => (∃ x ∈ pre, x.2 = false) ∧ Boxed W w.heap.size 44 (.slice none 0 0) ∧ Boxed W (w.heap.size + 1) 29 (.int .i64 4) ∧ Below w.heap.size w W)
    ?hI ?hIx ?hIb ?h0
    (fun x => { tmps := #[.string s, undef, .pointer (some ⟨w.heap.size, 0, none⟩), .pointer (some ⟨w.heap.size + 1, 0, none⟩), .pointer (some ⟨w.heap.size + 1 + 1, 0, none⟩), .string (sb x.1), .bool x.2, .string s, .func (.func 217) #[] #[.pointer (some ⟨w.heap.size + 1 + 1 + 1, 0, none⟩)], .string (sb x.1), .bool x.2, undef, undef, undef, undef, undef, undef, undef, undef, undef, undef], defers := [] }) ?assign ?body ?done ?stop
  case hI =>
    rintro pre A A' row ⟨h1, ⟨v, h2, h3⟩, h4, h5, h6, h7⟩ hg hr
    have hr' := fun r e => (hr r e).2
    exact ⟨h1, ⟨v, keep_blk hg hr' h2, keep_row hg hr' h3⟩, keep_blk hg hr' h4, keep_blk hg hr' h5, h6.grown hg h6.size (fun k e => by have := (hr k e).1; omega), Nat.le_trans h7 hg.size⟩
  case hIx =>
    rintro pre A A' row ⟨h1, h4, h5, h6⟩ hg hr
    have hr' := fun r e => (hr r e).2
    exact ⟨h1, keep_blk hg hr' h4, keep_blk hg hr' h5, h6.grown hg h6.size (fun k e => by have := (hr k e).1; omega)⟩
  case hIb =>
    rintro pre A u ⟨h1, ⟨v, h2, h3⟩, h4, h5, h6, h7⟩
    have hg := grownBy_setCell' A (w.heap.size + 3) u
    exact ⟨h1, ⟨v, h2.kept hg (by simp), h3.kept hg (.inr (fun e => by have := (own_lt h3 _ e).1; omega))⟩, h4.kept hg (by simp), h5.kept hg (by simp), h6.grown hg h6.size (fun k e => by cases e; omega), Nat.le_trans h7 hg.size⟩
  case h0 =>
    exact ⟨by simp, ⟨_, c2, World.ownsRow_nil _ _ _ _⟩, c0, c1, hB0, by omega⟩
  case assign =>
    intro l x W K hK
    gi_wp2
    exact hK
  case body =>
    rintro l pre ⟨x, y⟩ W ⟨h1, ⟨v, h2, h3⟩, h4, h5, h6, hW4⟩ hsp
    have hpl : pre.length ≤ 1000000000 := by
      have := hsp.length_le
      have h2 := steps_len (bl s)
      rw [bl_len] at h2
      simp at this
      omega
    have hc := h2.cell
    have hc0 := h4.cell
    have hf0 := h4.frozen
    have hc1 := h5.cell
    have hf1 := h5.frozen
    cases y with
    | false =>
      clear hsp
      gi_wp2
      exact ⟨((KeepsOthers.setCell _ _ _).trans (KeepsOthers.setCell _ _ _)).from _, ⟨(x, false), by simp, rfl⟩, (h4.set _).other (by omega) _, (h5.other (by simp) _).set _, (h6.setCell (p := ⟨w.heap.size, 0, none⟩) (Nat.le_refl _) _).setCell (p := ⟨w.heap.size + 1, 0, none⟩) (by simp) _⟩
    | true =>
      clear hsp
      gi_wp2_with (gi_at_builtin; refine wpListIn_append_own _ rfl _ _ 44 rfl (w.heap.size + 4) 9 i0 (.string (sb [])) 1 16 Try.underlying44 hi hz0 hz1 hz2 rfl (by decide) _ _ _ rfl (h3.alloc _) ⟨W.heap.size, 0, none⟩ 1 1 [.string (sb x)] rfl rfl (cell_one_new _ _ _) (by simp [Value.oneCell']) (by unfold maxLen; omega) (by omega) (by simp; omega) ?_; intro v' w1 hown' hgrow _; obtain ⟨hv1, hv2, hr2, hk2, hb2⟩ := box_app h2 (by omega) h3 hW4 hown' hgrow; obtain ⟨g', cap', rfl⟩ := ownsRow_succ hown'; have hc1 := hv1.cell; have hf1 := hv1.frozen)
      refine ⟨hk2.from _, ?_, ?_, ⟨_, hv2, by simpa [encLab] using hr2⟩, ?_, ?_, ?_, ?_⟩
      · exact (Below.heap_setCell _ _ _ _ (by simp)).trans (hb2.block _ (by omega))
      · intro z hz
        rcases List.mem_append.1 hz with hz | hz
        · exact h1 z hz
        · simp at hz; rw [hz]
      · exact (Below.heap_setCell _ _ _ _ (by simp; omega)).trans ((hb2.block _ (by omega)).trans h4)
      · exact (Below.heap_setCell _ _ _ _ (by simp)).trans ((hb2.block _ (by omega)).trans h5)
      · exact (h6.trans (hb2.mono (by omega))).setCell (p := ⟨w.heap.size + 1 + 1, 0, none⟩) (by simp; omega) _
      · have := hb2.size; simp [World.setCell] at this ⊢; omega
  case done =>
    rintro D xs W hD rfl ⟨h1, ⟨v, h2, h3⟩, h4, h5, h6, hW4⟩ hK
    have hfine : fineS (bl s) = true := by
      unfold fineS; rw [List.all_eq_true]; exact h1
    obtain ⟨va, vn, vc, rfl⟩ : ∃ va vn vc, v = .slice va vn vc := by
      rcases h3.2 with ⟨rfl, _⟩ | ⟨g, cap, cur, rfl, _⟩ <;> exact ⟨_, _, _, rfl⟩
    have hc := h2.cell
    have hc0 := h4.cell
    have hf0 := h4.frozen
    have hc1 := h5.cell
    have hf1 := h5.frozen
    have hD4 : w.heap.size + 4 ≤ D := by omega
    by_cases hlong : 255 < s.size
    · have hl' : (255 : Int) < (s.size : Int) := by omega
      have HE : Hid (labErr (bl s) = 3) := by unfold labErr; rw [hfine, bl_len, if_neg (by simp), if_pos hlong]; exact Lib.hid rfl
      clear hfine hlong
      gi_wp2
      have g0 := (h4.set (.slice none 0 0)).other (B' := w.heap.size + 1) (by omega) (.int .i64 3)
      have g1 := (h5.other (B' := w.heap.size) (by omega) (.slice none 0 0)).set (.int .i64 3)
      have hK2 : ((W.setCell ⟨w.heap.size, 0, none⟩ (.slice none 0 0)).setCell ⟨w.heap.size + 1, 0, none⟩ (.int .i64 3)).heap[D]? = _ := (Below.heap_setCell _ _ _ _ (by simp; omega)).trans ((Below.heap_setCell _ _ _ _ (by simp; omega)).trans hK)
      have hbel : Below w.heap.size w ((W.setCell ⟨w.heap.size, 0, none⟩ (.slice none 0 0)).setCell ⟨w.heap.size + 1, 0, none⟩ (.int .i64 3)) := (h6.setCell (p := ⟨w.heap.size, 0, none⟩) (Nat.le_refl _) _).setCell (p := ⟨w.heap.size + 1, 0, none⟩) (by simp) _
      have q0 : (((W.setCell ⟨w.heap.size, 0, none⟩ (.slice none 0 0)).setCell ⟨w.heap.size + 1, 0, none⟩ (.int .i64 3)).putObj D (.deferred none)).cell? ⟨w.heap.size, 0, none⟩ = some (.slice none 0 0) := by rw [World.cell?_of_block (World.putObj_heap_other (show w.heap.size ≠ D by omega))]; exact g0.cell
      have q1 : (((W.setCell ⟨w.heap.size, 0, none⟩ (.slice none 0 0)).setCell ⟨w.heap.size + 1, 0, none⟩ (.int .i64 3)).putObj D (.deferred none)).cell? ⟨w.heap.size + 1, 0, none⟩ = some (.int .i64 3) := by rw [World.cell?_of_block (World.putObj_heap_other (show w.heap.size + 1 ≠ D by omega))]; exact g1.cell
      refine ⟨by simp, .inl ⟨_, _, rfl, run_takeDeferred hK2, ?_⟩⟩
      refine ⟨.tuple #[(.slice none 0 0), .int .i64 3], by simp [results, Try.f147, go_sem, q0, q1], _, by rw [HE.out], ?_, ?_, ?_⟩
      · intro h; rw [HE.out] at h; cases h
      · intro _; rfl
      · exact hbel.trans (belowK_b (w := w) (Nat.le_refl _) _ D _ _ (by omega) hK2 rfl rfl)
    · have hl' : ¬ (255 : Int) < (s.size : Int) := by omega
      have HE : Hid (labErr (bl s) = 0) := by unfold labErr; rw [hfine, bl_len, if_neg (by simp), if_neg hlong]; exact Lib.hid rfl
      clear hfine hlong
      gi_wp2
      have hg0 := grownBy_setCell' W w.heap.size (.slice va vn vc)
      have hg1 := grownBy_setCell' (W.setCell ⟨w.heap.size, 0, none⟩ (.slice va vn vc)) (w.heap.size + 1) (.int .i64 0)
      have g0 := (h4.set (.slice va vn vc)).other (B' := w.heap.size + 1) (by omega) (.int .i64 0)
      have g1 := (h5.other (B' := w.heap.size) (by omega) (.slice va vn vc)).set (.int .i64 0)
      have hK2 : ((W.setCell ⟨w.heap.size, 0, none⟩ (.slice va vn vc)).setCell ⟨w.heap.size + 1, 0, none⟩ (.int .i64 0)).heap[D]? = _ := (Below.heap_setCell _ _ _ _ (by simp; omega)).trans ((Below.heap_setCell _ _ _ _ (by simp; omega)).trans hK)
      have h3' := (h3.kept hg0 (.inr (fun e => by have := (own_lt h3 _ e).1; omega)))
      have h3'' := (h3'.kept hg1 (.inr (fun e => by have := (own_lt h3' _ e).1; omega)))
      have hbel : Below w.heap.size w ((W.setCell ⟨w.heap.size, 0, none⟩ (.slice va vn vc)).setCell ⟨w.heap.size + 1, 0, none⟩ (.int .i64 0)) := (h6.setCell (p := ⟨w.heap.size, 0, none⟩) (Nat.le_refl _) _).setCell (p := ⟨w.heap.size + 1, 0, none⟩) (by simp) _
      have q0 : (((W.setCell ⟨w.heap.size, 0, none⟩ (.slice va vn vc)).setCell ⟨w.heap.size + 1, 0, none⟩ (.int .i64 0)).putObj D (.deferred none)).cell? ⟨w.heap.size, 0, none⟩ = some (.slice va vn vc) := by rw [World.cell?_of_block (World.putObj_heap_other (show w.heap.size ≠ D by omega))]; exact g0.cell
      have q1 : (((W.setCell ⟨w.heap.size, 0, none⟩ (.slice va vn vc)).setCell ⟨w.heap.size + 1, 0, none⟩ (.int .i64 0)).putObj D (.deferred none)).cell? ⟨w.heap.size + 1, 0, none⟩ = some (.int .i64 0) := by rw [World.cell?_of_block (World.putObj_heap_other (show w.heap.size + 1 ≠ D by omega))]; exact g1.cell
      refine ⟨by simp, .inl ⟨_, _, rfl, run_takeDeferred hK2, ?_⟩⟩
      refine ⟨.tuple #[(.slice va vn vc), .int .i64 0], by simp [results, Try.f147, go_sem, q0, q1], _, by rw [HE.out], ?_, ?_, ?_⟩
      · intro _
        have h3c := ownsRow_putObj h3'' (.deferred none) hK2 rfl
        have e1 : (labs (bl s)).length = (Steps (bl s)).length := by simp [labs]
        have e2 : (labs (bl s)).map encLab = (Steps (bl s)).map fun x => encLab x.1 := by simp [labs]
        rw [e1, e2]
        exact ⟨h3c.1, h3c.2.imp id (fun ⟨g, cap, cur, h1, h2, h3⟩ => ⟨g, cap, cur, h1, by omega, h3⟩)⟩
      · intro h; exact absurd HE.out h
      · exact hbel.trans (belowK_b (w := w) (Nat.le_refl _) _ D _ _ (by omega) hK2 rfl rfl)
  case stop =>
    rintro D pre W hD hpre ⟨⟨x, hx, hxf⟩, h4, h5, h6⟩ hK
    have HE : Hid (labErr (bl s) = 4) := by
      unfold labErr
      rw [if_pos]
      · exact Lib.hid rfl
      · unfold fineS
        rw [List.all_eq_false]
        exact ⟨x, hpre.subset hx, by simp [hxf]⟩
    have hD4 : w.heap.size + 4 ≤ D := by omega
    have hK2 := hK
    have g0 := h4
    have g1 := h5
    gi_wp2
    have q0 : (W.putObj D (.deferred none)).cell? ⟨w.heap.size, 0, none⟩ = some (.slice none 0 0) := by rw [World.cell?_of_block (World.putObj_heap_other (show w.heap.size ≠ D by omega))]; exact g0.cell
    have q1 : (W.putObj D (.deferred none)).cell? ⟨w.heap.size + 1, 0, none⟩ = some (.int .i64 4) := by rw [World.cell?_of_block (World.putObj_heap_other (show w.heap.size + 1 ≠ D by omega))]; exact g1.cell
    refine ⟨by simp, .inl ⟨_, _, rfl, run_takeDeferred hK2, ?_⟩⟩
    refine ⟨.tuple #[(.slice none 0 0), .int .i64 4], by simp [results, Try.f147, go_sem, q0, q1], _, by rw [HE.out], ?_, ?_, ?_⟩
    · intro h; rw [HE.out] at h; cases h
    · intro _; rfl
    · exact h6.trans (belowK_b (w := w) (Nat.le_refl _) _ D _ _ (by omega) hK2 rfl rfl)
/-- Labels. -/
theorem labels_ok (s : ByteArray) (w : World) (hs : s.size ≤ 1000000000) :
    Calls Try.prog 147 #[.string s] w fun e w' => ∃ v, e = .returned (.tuple #[v, .int .i64 (labErr (bl s))]) ∧ (labErr (bl s) = 0 → w'.ownsRow w.heap.size 9 1 v (labs (bl s)).length ((labs (bl s)).map encLab)) ∧ (labErr (bl s) ≠ 0 → v = .slice none 0 0) ∧ Below w.heap.size w w' :=
  callsIn_wide.1 (labels_in s w hs)
/-- Check. -/
theorem check_ok (s : ByteArray) (w : World) (hs : s.size ≤ 1000000000) :
    Calls Try.prog 96 #[.string s] w fun e w' => e = .returned (.int .i64 (labErr (bl s))) ∧ Below w.heap.size w w' := by
  go_enter Try.func96, Try.ntmps96
  go_wp2_with (go_at_call 147; refine (labels_ok s _ hs).mono ?_; rintro e w' ⟨v, rfl, h1, h2, h3⟩)
  go_ret
  exact ⟨rfl, h3⟩
end Go.Proofs.Ytpijbdddegbjbaa
