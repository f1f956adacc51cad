/- An instruction's fields, of those that may be. No program in sight. -/
import Derived.Test.YtodmkjeankbieabSoundPlain
namespace Go.Proofs.Ytodmkjeankbieab

theorem ins_fields {p : Pg} {i : In} (h : insB p i = true) (hl : 1 ≤ p.wide.length) : (0 ≤ i.a ∧ i.a < p.wide.length) ∧ (0 ≤ i.b ∧ i.b < p.wide.length) ∧ (0 ≤ i.d ∧ i.d < p.wide.length) ∧ 0 ≤ i.c := by
  rw [insB_eq] at h
  unfold insR at h
  simp only [Bool.and_eq_true] at h
  obtain ⟨⟨⟨_, h2⟩, h3⟩, _⟩ := h
  obtain ⟨⟨h2, h5⟩, h6⟩ := h2
  have hf : ∀ (b : Bool) (n : Int), fieldR p.wide b n = true → 0 ≤ n ∧ n < p.wide.length := by
    intro b n hb
    cases b with
    | true => simpa [fieldR, inB] using hb
    | false => simp [fieldR] at hb; omega
  refine ⟨hf _ _ h5, hf _ _ h6, hf _ _ h2, ?_⟩
  split at h3
  · simp [inB] at h3; omega
  · simp at h3; omega

end Go.Proofs.Ytodmkjeankbieab
