/- Keys that are structs of a string and two ints: the map of package sets. No condition. -/
import Derived.Test.YtpijbdddegbjbaaProg
import Derived.Test.YtpijbdddegbjbaaMem
import Derived.Laws.StructEq
namespace Go.Proofs.Ytpijbdddegbjbaa
open Go.RowKit Go.Proofs
abbrev SKey := ByteArray × Int × Int
@[simp] def encKey (k : SKey) : Value := .agg #[.string k.1, .int .i64 k.2.1, .int .i64 k.2.2]
theorem eq_key (a b : SKey) (w : World) : (Op.equal 135 (encKey a) (encKey b)).run Try.prog w = .ok (decide (a = b)) w := by
  obtain ⟨a1, a2, a3⟩ := a
  obtain ⟨b1, b2, b3⟩ := b
  have hs := Try.underlying9
  have hi := Try.underlying3
  have hk := Try.underlying135
  have h0 : Try.prog.stoodInHeld 135 = false := by kernel_rfl
  show (Op.equalIn (9999 + 1) _ _ _).run _ _ = _
  unfold encKey
  rw [run_equalIn_struct w 9999 135 _ _ (by kernel_rfl) h0]
  simp only [Program.fieldsOf, hk]
  simp [go_sem]
  by_cases h1 : a1 = b1
  · subst h1
    by_cases h2 : a2 = b2
    · subst h2
      by_cases h3 : a3 = b3
      · subst h3; simp
      · simp [h3]
    · simp [h2]
  · have : a1.toList ≠ b1.toList := fun e => h1 (by
      rw [ByteArray.toList_eq, ByteArray.toList_eq] at e
      cases a1; cases b1; simp at e; rw [e])
    simp [h1, this]
theorem findAsking_is {K : Type} [DecidableEq K] {P : Program} {kt : TypeId} {enc : K → Value} (heq : ∀ a b w, (Op.equal kt (enc a) (enc b)).run P w = .ok (decide (a = b)) w) (k : K) (w : World) : ∀ (es : List MapEntry) (ks : List K) (i : Nat), es.map (·.key) = ks.map enc →
    (Instr.findAsking kt (enc k) es i).run P w = .ok ((ks.findIdx? (fun x => decide (x = k))).bind fun j => (es[j]?).map fun e => (i + j, e.val)) w
  | [], [], i, _ => by simp [Instr.findAsking]
  | [], _ :: _, _, h => by simp at h
  | _ :: _, [], _, h => by simp at h
  | e :: es, x :: ks, i, h => by
    simp only [List.map_cons, List.cons.injEq] at h
    unfold Instr.findAsking
    rw [h.1]
    by_cases hx : x = k
    · subst hx
      simp [Sem.run_bind, heq, Result.andThen, List.findIdx?_cons]
    · have hx' : ¬ k = x := fun e => hx e.symm
      have ih := findAsking_is heq k w es ks (i + 1) h.2
      simp only [Sem.run_bind, heq, hx', decide_false, Result.andThen, Bool.false_eq_true, if_false, ih]
      rw [List.findIdx?_cons]
      simp only [hx, decide_false]
      cases ks.findIdx? (fun x => decide (x = k)) with
      | none => rfl
      | some j =>
        simp
        cases es[j]? <;> simp; omega
theorem findNow_struct {P : Program} {fs : Array Field} (k : Value) : ∀ (es : List MapEntry) (i : Nat), es ≠ [] → Instr.findNow (.struct fs) k es i = none
  | [], _, h => absurd rfl h
  | e :: es, i, _ => by
    unfold Instr.findNow
    have : Instr.sameNow (.struct fs) k e.key = none := by unfold Instr.sameNow; split <;> simp_all
    rw [this]
theorem keyOK_struct {K : Type} [DecidableEq K] {P : Program} {kt : TypeId} {fs : Array Field} {enc : K → Value} (hk : P.underlying kt = some (.struct fs)) (heq : ∀ a b w, (Op.equal kt (enc a) (enc b)).run P w = .ok (decide (a = b)) w)
    (hc : ∀ (w : World) em k, (Instr.checkKey em 10000 kt (enc k)).run P w = .ok () w) (hb : ∀ k, Instr.sameBits 10000 (enc k) (enc k) = true) : KeyOK P kt enc where
  check := hc
  find := by
    intro w k es ks h
    cases es with
    | nil =>
      cases ks with
      | nil => simp [Instr.findKey, run_underlying hk, Instr.findNow, Result.andThen]
      | cons => simp at h
    | cons e es =>
      have h1 := findNow_struct (P := P) (fs := fs) (enc k) (e :: es) 0 (by simp)
      have h2 := findAsking_is heq k w (e :: es) ks 0 h
      simp only [Nat.zero_add] at h2
      simp [Instr.findKey, run_underlying hk, h1, Result.andThen, h2]
  stays := by
    intro w k
    simp [Instr.keyThatStays, hb]
theorem keySets : KeyOK Try.prog 135 encKey :=
  keyOK_struct Try.underlying135 eq_key (fun w em k => by
    obtain ⟨k1, k2, k3⟩ := k
    kernel_rfl) (fun k => by
    show Instr.sameBits (9999 + 1) _ _ = true
    simp [Instr.sameBits, encKey, bytes_beq])
end Go.Proofs.Ytpijbdddegbjbaa
