/- A region that draws, whose operations but the last ones only read: walked by the cheap step. No condition. -/
import Derived.Test.YtpijbdddegbjbaaMem
import Derived.BigQuiet
import Derived.Deep.QuietTactic
namespace Go.Proofs.Ytpijbdddegbjbaa
open Go.RowKit Go.Proofs
theorem still_of_quiet {P : Program} {o : Oper} {a : Act} {w2 : World} {K : Act → Prop} (h : o.quiet P a (fun w' => w' = w2) K) : o.still P a w2 K := by
  obtain ⟨v, h1, h2⟩ := h
  have := h1 w2 rfl
  unfold Oper.quietAt at this
  unfold Oper.still
  cases hr : (execOp a.eval o).run P w2 with
  | ok r w' =>
    rw [hr] at this
    cases r with
    | value u =>
      obtain ⟨rfl, rfl⟩ := this
      exact ⟨rfl, h2⟩
    | skip =>
      obtain ⟨rfl, rfl⟩ := this
      exact ⟨rfl, h2⟩
    | enter f args => exact ⟨this.1, v, this.2, h2⟩
    | _ => exact this.elim
  | _ => rw [hr] at this; exact this.elim
theorem wpStill_of_quiet {P : Program} {ops : Array Oper} {w2 : World} {Q : Act → Prop} : ∀ (l : List Oper) (a : Act), wpQuiet P ops (fun w' => w' = w2) Q l a → wpStill P ops w2 Q l a
  | [], _, h => h
  | o :: rest, a, h => by
    unfold wpStill
    unfold wpQuiet at h
    split
    · rename_i hw
      rw [if_pos hw] at h
      obtain ⟨v, h1, h2⟩ := h
      exact still_of_quiet ⟨v, h1, wpStill_of_quiet rest _ h2⟩
    · rename_i hw
      rw [if_neg hw] at h
      exact wpStill_of_quiet rest _ h
theorem wp_tailq {P : Program} {id : Nat} {Q : Exit → Act → World → Prop} {a : Act} {w : World} {l : List Oper} (n : Nat) (hm : P.follows .mixedOrders = true) (hB : Region.lexTailB .any l.toArray n = true)
    (h : ∀ w2 : World, (∀ x, w2.cell? x = w.cell? x) → (∀ x, w2.frozen? x = w.frozen? x) → Hid (w2.heap = w.heap) → Hid (∀ B w0, Below B w0 w → Below B w0 w2) →
      ∀ K : Act → Prop, Hid (∀ a', wpList P l.toArray Q (l.drop n) a' w2 → K a') → wpQuiet P l.toArray (fun w' => w' = w2) K (l.take n) a) : (Code.region id l.toArray true).wp P Q a w :=
  wp_tail n hm hB fun w2 h1 h2 h3 h4 => wpStill_of_quiet _ _ (h w2 h1 h2 h3 h4 _ (fun _ h => h))
end Go.Proofs.Ytpijbdddegbjbaa
