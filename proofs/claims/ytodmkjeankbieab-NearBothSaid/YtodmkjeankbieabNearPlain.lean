/- What is near: what the loops hold. No program in sight. -/
import Derived.Test.YtodmkjeankbieabLivePlain2
namespace Go.Proofs.Ytodmkjeankbieab

section
variable {code : List In} {M : Nat → Nat → Bool}
/-- two are put near -/
def putN (f : Nat → Nat → Bool) (a b : Nat) : Nat → Nat → Bool :=
  if a = b then f else fun x y => if x = b ∧ y = a then true else if x = a ∧ y = b then true else f x y
theorem putN_iff (f : Nat → Nat → Bool) (a b x y : Nat) : putN f a b x y = true ↔ f x y = true ∨ (a ≠ b ∧ ((x = a ∧ y = b) ∨ (x = b ∧ y = a))) := by
  unfold putN
  by_cases h : a = b
  · simp [h]
  · rw [if_neg h]
    by_cases h1 : x = b ∧ y = a
    · simp [h1, h]
    · by_cases h2 : x = a ∧ y = b
      · simp [h2, h]
      · rw [if_neg h1, if_neg h2]
        constructor
        · exact Or.inl
        · rintro (h3 | ⟨_, h3 | h3⟩)
          · exact h3
          · exact absurd h3 h2
          · exact absurd h3 h1

/-- the loop over the instructions, ahead of instruction K -/
def NearK (code : List In) (M : Nat → Nat → Bool) (W K : Nat) (f : Nat → Nat → Bool) : Prop :=
  ∀ x y, x < W → y < W → (f x y = true ↔ x ≠ y ∧ ∃ k, k < K ∧ (nearAt code M k x y = true ∨ nearAt code M k y x = true))
/-- .. in instruction K, ahead of temporary T -/
def NearT (code : List In) (M : Nat → Nat → Bool) (W K T : Nat) (f : Nat → Nat → Bool) : Prop :=
  ∀ x y, x < W → y < W → (f x y = true ↔ x ≠ y ∧ ((∃ k, k < K ∧ (nearAt code M k x y = true ∨ nearAt code M k y x = true)) ∨ (y < T ∧ nearAt code M K x y = true) ∨ (x < T ∧ nearAt code M K y x = true)))
theorem NearK.zero {W : Nat} : NearK code M W 0 (fun _ _ => false) := by
  intro x y _ _
  simp
theorem NearK.none {W K : Nat} {f : Nat → Nat → Bool} (h : NearK code M W K f) (hg : gvs (inAt code K).op = false) : NearK code M W (K + 1) f := by
  intro x y hx hy
  rw [h x y hx hy]
  have e : ∀ a b, nearAt code M K a b = false := by intro a b; unfold nearAt givesB; rw [hg]; rfl
  constructor
  · rintro ⟨h1, k, hk, h2⟩
    exact ⟨h1, k, by omega, h2⟩
  · rintro ⟨h1, k, hk, h2⟩
    refine ⟨h1, k, ?_, h2⟩
    by_cases hkk : k = K
    · subst hkk; rw [e, e] at h2; simp at h2
    · omega
theorem NearK.toT {W K : Nat} {f : Nat → Nat → Bool} (h : NearK code M W K f) : NearT code M W K 0 f := by
  intro x y hx hy
  rw [h x y hx hy]
  simp
theorem NearT.toK {W K : Nat} {f : Nat → Nat → Bool} (h : NearT code M W K W f) : NearK code M W (K + 1) f := by
  intro x y hx hy
  rw [h x y hx hy]
  constructor
  · rintro ⟨h1, ⟨k, hk, h2⟩ | ⟨_, h2⟩ | ⟨_, h2⟩⟩
    · exact ⟨h1, k, by omega, h2⟩
    · exact ⟨h1, K, by omega, Or.inl h2⟩
    · exact ⟨h1, K, by omega, Or.inr h2⟩
  · rintro ⟨h1, k, hk, h2⟩
    refine ⟨h1, ?_⟩
    by_cases hkk : k = K
    · subst hkk
      rcases h2 with h2 | h2
      · exact Or.inr (Or.inl ⟨hy, h2⟩)
      · exact Or.inr (Or.inr ⟨hx, h2⟩)
    · exact Or.inl ⟨k, by omega, h2⟩
theorem nearAt_iff {K a b : Nat} : nearAt code M K a b = true ↔ gvs (inAt code K).op = true ∧ (inAt code K).d = (a : Int) ∧ ¬ ((inAt code K).op = 2 ∧ (inAt code K).a = (b : Int)) ∧ behindM code M K b = true := by
  unfold nearAt givesB
  simp [and_assoc]
  intro _ _ _
  exact Decidable.imp_iff_not_or.symm
theorem NearT.no {W K T : Nat} {f : Nat → Nat → Bool} (h : NearT code M W K T f) (hn : ¬ (behindM code M K T = true ∧ ¬ ((inAt code K).op = 2 ∧ (inAt code K).a = (T : Int)))) : NearT code M W K (T + 1) f := by
  have e : ∀ a, ¬ nearAt code M K a T = true := fun a h => hn ⟨(nearAt_iff.1 h).2.2.2, (nearAt_iff.1 h).2.2.1⟩
  intro x y hx hy
  rw [h x y hx hy]
  refine and_congr_right fun _ => or_congr_right ?_
  constructor
  · rintro (⟨h1, h2⟩ | ⟨h1, h2⟩)
    · exact Or.inl ⟨by omega, h2⟩
    · exact Or.inr ⟨by omega, h2⟩
  · rintro (⟨h1, h2⟩ | ⟨h1, h2⟩)
    · refine Or.inl ⟨?_, h2⟩
      by_cases hy : y = T
      · subst hy; exact absurd h2 (e _)
      · omega
    · refine Or.inr ⟨?_, h2⟩
      by_cases hy : x = T
      · subst hy; exact absurd h2 (e _)
      · omega
theorem NearT.yes {W K T d : Nat} {f : Nat → Nat → Bool} (h : NearT code M W K T f) (hg : gvs (inAt code K).op = true) (hd : (inAt code K).d = (d : Int)) (hb : behindM code M K T = true) (hm : ¬ ((inAt code K).op = 2 ∧ (inAt code K).a = (T : Int))) :
    NearT code M W K (T + 1) (putN f d T) := by
  have e : nearAt code M K d T = true := nearAt_iff.2 ⟨hg, hd, hm, hb⟩
  have e2 : ∀ a b, nearAt code M K a b = true → a = d := fun a b h => by have := (nearAt_iff.1 h).2.1; omega
  intro x y hx hy
  rw [putN_iff, h x y hx hy]
  constructor
  · rintro (⟨h0, h1 | ⟨h1, h2⟩ | ⟨h1, h2⟩⟩ | ⟨h0, ⟨rfl, rfl⟩ | ⟨rfl, rfl⟩⟩)
    · exact ⟨h0, Or.inl h1⟩
    · exact ⟨h0, Or.inr (Or.inl ⟨by omega, h2⟩)⟩
    · exact ⟨h0, Or.inr (Or.inr ⟨by omega, h2⟩)⟩
    · exact ⟨h0, Or.inr (Or.inl ⟨by omega, e⟩)⟩
    · exact ⟨fun h => h0 h.symm, Or.inr (Or.inr ⟨by omega, e⟩)⟩
  · rintro ⟨h0, h1 | ⟨h1, h2⟩ | ⟨h1, h2⟩⟩
    · exact Or.inl ⟨h0, Or.inl h1⟩
    · have := e2 _ _ h2
      subst this
      by_cases hy : y = T
      · subst hy; exact Or.inr ⟨h0, Or.inl ⟨rfl, rfl⟩⟩
      · exact Or.inl ⟨h0, Or.inr (Or.inl ⟨by omega, h2⟩)⟩
    · have := e2 _ _ h2
      subst this
      by_cases hy : x = T
      · subst hy; exact Or.inr ⟨fun h => h0 h.symm, Or.inr ⟨rfl, rfl⟩⟩
      · exact Or.inl ⟨h0, Or.inr (Or.inr ⟨by omega, h2⟩)⟩

/-- the loops over those needed ahead of the first instruction, ahead of A and, in it, of B -/
def NearA (code : List In) (M : Nat → Nat → Bool) (W A B : Nat) (f : Nat → Nat → Bool) : Prop :=
  ∀ x y, x < W → y < W → (f x y = true ↔ x ≠ y ∧ ((∃ k, k < code.length ∧ (nearAt code M k x y = true ∨ nearAt code M k y x = true)) ∨
    (M 0 x = true ∧ M 0 y = true ∧ ((x < A ∨ x = A ∧ y < B) ∨ (y < A ∨ y = A ∧ x < B)))))
theorem NearK.toA {W : Nat} {f : Nat → Nat → Bool} (h : NearK code M W code.length f) : NearA code M W 0 0 f := by
  intro x y hx hy
  rw [h x y hx hy]
  simp
theorem NearA.next {W A : Nat} {f : Nat → Nat → Bool} (h : NearA code M W A W f) : NearA code M W (A + 1) 0 f := by
  intro x y hx hy
  rw [h x y hx hy]
  refine and_congr_right fun _ => or_congr_right ?_
  refine and_congr_right fun _ => and_congr_right fun _ => ?_
  omega
theorem NearA.no {W A B : Nat} {f : Nat → Nat → Bool} (h : NearA code M W A B f) (hn : ¬ (M 0 A = true ∧ M 0 B = true)) : NearA code M W A (B + 1) f := by
  intro x y hx hy
  rw [h x y hx hy]
  refine and_congr_right fun _ => or_congr_right ?_
  constructor
  · rintro ⟨h1, h2, h3⟩; exact ⟨h1, h2, by omega⟩
  · rintro ⟨h1, h2, h3⟩
    refine ⟨h1, h2, ?_⟩
    by_cases h4 : x = A ∧ y = B
    · obtain ⟨rfl, rfl⟩ := h4; exact absurd ⟨h1, h2⟩ hn
    · by_cases h5 : y = A ∧ x = B
      · obtain ⟨rfl, rfl⟩ := h5; exact absurd ⟨h2, h1⟩ hn
      · omega
theorem NearA.yes {W A B : Nat} {f : Nat → Nat → Bool} (h : NearA code M W A B f) (ha : M 0 A = true) (hb : M 0 B = true) : NearA code M W A (B + 1) (putN f A B) := by
  intro x y hx hy
  rw [putN_iff, h x y hx hy]
  constructor
  · rintro (⟨h0, h1 | ⟨h1, h2, h3⟩⟩ | ⟨h0, ⟨rfl, rfl⟩ | ⟨rfl, rfl⟩⟩)
    · exact ⟨h0, Or.inl h1⟩
    · exact ⟨h0, Or.inr ⟨h1, h2, by omega⟩⟩
    · exact ⟨h0, Or.inr ⟨ha, hb, by omega⟩⟩
    · exact ⟨fun h => h0 h.symm, Or.inr ⟨hb, ha, by omega⟩⟩
  · rintro ⟨h0, h1 | ⟨h1, h2, h3⟩⟩
    · exact Or.inl ⟨h0, Or.inl h1⟩
    · by_cases h4 : x = A ∧ y = B
      · exact Or.inr ⟨by omega, Or.inl h4⟩
      · by_cases h5 : y = A ∧ x = B
        · exact Or.inr ⟨by omega, Or.inr ⟨h5.2, h5.1⟩⟩
        · exact Or.inl ⟨h0, Or.inr ⟨h1, h2, by omega⟩⟩
/-- at the end of all -/
theorem NearA.all {W : Nat} {f : Nat → Nat → Bool} (h : NearA code (needB code) W W 0 f) {x y : Nat} (hx : x < W) (hy : y < W) : f x y = nearB code x y := by
  rw [Bool.eq_iff_iff, h x y hx hy]
  unfold nearB
  simp only [Bool.and_eq_true, decide_eq_true_eq, Bool.or_eq_true, List.any_eq_true, List.mem_range]
  refine and_congr_right fun _ => ?_
  constructor
  · rintro (⟨k, h1, h2⟩ | ⟨h1, h2, _⟩)
    · exact Or.inr ⟨k, h1, h2⟩
    · exact Or.inl ⟨h1, h2⟩
  · rintro (⟨h1, h2⟩ | ⟨k, h1, h2⟩)
    · exact Or.inr ⟨h1, h2, Or.inl (Or.inl hx)⟩
    · exact Or.inl ⟨k, h1, h2⟩
end
end Go.Proofs.Ytodmkjeankbieab
