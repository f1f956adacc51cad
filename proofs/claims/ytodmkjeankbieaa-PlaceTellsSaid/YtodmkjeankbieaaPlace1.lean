/- The walk of place.Overlap. -/
import Derived.Test.YtodmkjeankbieaaProg
import Derived.WalkKit
import Derived.ProofKit
import Derived.WalkSpells
import Derived.WalkLawsBesides
import Derived.Lib.Hide
import Derived.Outline
namespace Go.Proofs.Ytodmkjeankbieaa
open Go.RowKit

theorem ret_bool {a b : Bool} (h : a = b) : Ending.returned (.bool a) = .returned (.bool b) := by rw [h]

/-- do two places overlap? -/
def ov (k1 n1 k2 n2 : Int) : Bool :=
  if k1 = 2 ∧ k2 = 1 then n2 / 2 == n1 else if k1 = 1 ∧ k2 = 2 then n1 / 2 == n2 else decide (k1 = k2 ∧ n1 = n2)

theorem below2 {w : World} (o1 o2 : Obj) : Below w.heap.size w ((w.alloc o1).alloc o2) :=
  ((Below.refl _ _).alloc (Nat.le_refl _) _).alloc (by simp) _
theorem below1 {w : World} (o1 : Obj) : Below w.heap.size w (w.alloc o1) :=
  (Below.refl _ _).alloc (Nat.le_refl _) _

set_option maxHeartbeats 400000 in
theorem overlap_any (k1 n1 k2 n2 : Int) (w : World) :
    Calls Try.prog 13 #[.agg #[.int .i64 k1, .int .i64 n1], .agg #[.int .i64 k2, .int .i64 n2]] w fun e w' => e = .returned (.bool (ov k1 n1 k2 n2)) ∧ Below w.heap.size w w' := by
  by_cases h1 : k1 = 2 ∧ k2 = 1
  · obtain ⟨rfl, rfl⟩ := h1
    go_enter Try.func13, Try.ntmps13
    go_wp2
    go_ret
    refine ⟨rfl, ?_⟩
    repeat (first | exact Below.refl _ _ | exact below2 _ _ | refine Below.setCell ?_ (by simp) _ | refine Below.alloc ?_ (by simp) _)
  · by_cases h2 : k1 = 1 ∧ k2 = 2
    · obtain ⟨rfl, rfl⟩ := h2
      go_enter Try.func13, Try.ntmps13
      go_wp2
      go_ret
      exact ⟨rfl, below2 _ _⟩
    · by_cases h3 : k1 = k2 ∧ n1 = n2
      · obtain ⟨rfl, rfl⟩ := h3
        have hn : ov k1 n1 k1 n1 = true := by unfold ov; rw [if_neg h1, if_neg h2]; simp
        clear h1 h2
        rw [hn]
        clear hn
        go_enter Try.func13, Try.ntmps13
        go_wp2
        all_goals go_ret
        all_goals exact ⟨rfl, below2 _ _⟩
      · have hn : ov k1 n1 k2 n2 = false := by unfold ov; rw [if_neg h1, if_neg h2]; exact decide_eq_false h3
        rw [hn]
        have g1 : ¬ (k1 = 2 ∧ k2 = 1) := h1
        have g2 : ¬ (k1 = 1 ∧ k2 = 2) := h2
        clear hn h1 h2
        by_cases e1 : k1 = 2 <;> by_cases e2 : k1 = 1 <;> by_cases e3 : k2 = 1 <;> by_cases e4 : k2 = 2
        all_goals first | (exfalso; omega) | skip
        all_goals
          clear g1 g2
          go_enter Try.func13, Try.ntmps13
          go_wp2
        all_goals go_ret
        all_goals exact ⟨rfl, below2 _ _⟩
end Go.Proofs.Ytodmkjeankbieaa
