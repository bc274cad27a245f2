/- What all walks of this seat share: small laws of worlds. -/
import Derived.Test.YtkibophcodhcbaaRows
import Derived.Test.YtkibophcodhcbaaFops
import Derived.Handy
import Derived.WalkSpells
import Derived.WalkLawsBesides
import Derived.Deep.RegionHeld3
import Derived.Deep.QuietTactic
import Derived.BigQuiet
import Derived.Lib.Hide
import Derived.PlainAid
namespace Go.Proofs.Ytkibophcodhcbaa
open Go.RowKit

theorem bcell {W w1 : World} (hb : Below W.heap.size W w1) : (∀ b o, b < W.heap.size → w1.cell? ⟨b, o, none⟩ = W.cell? ⟨b, o, none⟩) ∧ (∀ b o, b < W.heap.size → w1.frozen? ⟨b, o, none⟩ = W.frozen? ⟨b, o, none⟩) :=
  ⟨fun b o h => hb.cell (p := ⟨b, o, none⟩) h, fun b o h => hb.frozen (p := ⟨b, o, none⟩) h⟩
theorem bstep {w W w1 : World} (h : Below w.heap.size w W) (h1 : Below W.heap.size W w1) : Below w.heap.size w w1 := h.trans (h1.mono h.size)
theorem bkeep {w W w1 : World} {b o : Nat} {v : Value} (h : Below w.heap.size w W ∧ W.cell? ⟨b, o, none⟩ = some v) (hb : b < w.heap.size) (h1 : Below W.heap.size W w1) : Below w.heap.size w w1 ∧ w1.cell? ⟨b, o, none⟩ = some v :=
  ⟨bstep h.1 h1, (h1.cell (p := ⟨b, o, none⟩) (Nat.lt_of_lt_of_le hb h.1.size)).trans h.2⟩
theorem ret_int {k : IntKind} {a b : Int} (h : a = b) : Ending.returned (.int k a) = .returned (.int k b) := by rw [h]
end Go.Proofs.Ytkibophcodhcbaa
