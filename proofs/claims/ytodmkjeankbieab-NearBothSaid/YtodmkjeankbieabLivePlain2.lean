/- The rounds over what is needed, plainly: they grow, and end where nothing grows. No program in sight. -/
import Derived.Test.YtodmkjeankbieabLivePlain
namespace Go.Proofs.Ytodmkjeankbieab

theorem countP_lt {α : Type} {p q : α → Bool} : ∀ {l : List α}, (∀ x ∈ l, p x = true → q x = true) → (∃ x ∈ l, q x = true ∧ p x = false) → l.countP p < l.countP q
  | [], _, ⟨x, hx, _⟩ => by simp at hx
  | y :: l, h, ⟨x, hx, hq, hp⟩ => by
    rw [List.countP_cons, List.countP_cons]
    have hm : l.countP p ≤ l.countP q := List.countP_mono_left fun z hz => h z (List.mem_cons_of_mem _ hz)
    rcases List.mem_cons.1 hx with rfl | hx
    · rw [hq, hp]; simp; omega
    · have := countP_lt (l := l) (fun z hz => h z (List.mem_cons_of_mem _ hz)) ⟨x, hx, hq, hp⟩
      have hy := h y (by simp)
      cases hpy : p y with
      | true => rw [hy hpy]; simp; omega
      | false => cases q y <;> simp <;> omega

/-- how many entries are not true -/
def cntM (L W : Nat) (M : Nat → Nat → Bool) : Nat := ((List.range L).flatMap fun k => (List.range W).map fun t => (k, t)).countP fun x => !M x.1 x.2
theorem mem_prod {L W k t : Nat} : (k, t) ∈ ((List.range L).flatMap fun k => (List.range W).map fun t => (k, t)) ↔ k < L ∧ t < W := by
  simp
theorem cnt_le {L W : Nat} {M M' : Nat → Nat → Bool} (h : ∀ k t, k < L → t < W → M k t = true → M' k t = true) : cntM L W M' ≤ cntM L W M := by
  unfold cntM
  apply List.countP_mono_left
  rintro ⟨k, t⟩ hx h1
  obtain ⟨hk, ht⟩ := mem_prod.1 hx
  simp only [Bool.not_eq_true'] at *
  cases hm : M k t with
  | false => rfl
  | true => rw [h k t hk ht hm] at h1; cases h1
theorem cnt_lt {L W : Nat} {M M' : Nat → Nat → Bool} (h : ∀ k t, k < L → t < W → M k t = true → M' k t = true) {k t : Nat} (hk : k < L) (ht : t < W) (h1 : M k t = false) (h2 : M' k t = true) : cntM L W M' < cntM L W M := by
  unfold cntM
  apply countP_lt
  · rintro ⟨k, t⟩ hx h1
    obtain ⟨hk, ht⟩ := mem_prod.1 hx
    simp only [Bool.not_eq_true'] at *
    cases hm : M k t with
    | false => rfl
    | true => rw [h k t hk ht hm] at h1; cases h1
  · exact ⟨(k, t), mem_prod.2 ⟨hk, ht⟩, by simp [h1], by simp [h2]⟩

section
variable {code : List In} {W : Nat}
/-- sound, and no more than what the next round gives -/
structure Good (code : List In) (W : Nat) (M : Nat → Nat → Bool) : Prop where
  sound : ∀ k t, k < code.length → t < W → M k t = true → Need code t k
  grow : ∀ k t, k < code.length → t < W → M k t = true → stepM code M k t = true
theorem Good.zero : Good code W (fun _ _ => false) := ⟨fun _ _ _ _ h => by simp at h, fun _ _ _ _ h => by simp at h⟩

theorem behindM_mono {M M' : Nat → Nat → Bool} {k t : Nat} (h : ∀ m, m < code.length → M m t = true → M' m t = true) (hb : behindM code M k t = true) : behindM code M' k t = true := by
  unfold behindM at *
  rw [List.any_eq_true] at hb ⊢
  obtain ⟨m, hm, h1⟩ := hb
  refine ⟨m, hm, h m ?_ h1⟩
  unfold nx at hm
  simpa using (List.mem_filter.1 hm).2
theorem stepM_mono {M M' : Nat → Nat → Bool} {k t : Nat} (h : ∀ m, m < code.length → M m t = true → M' m t = true) (hb : stepM code M k t = true) : stepM code M' k t = true := by
  unfold stepM at *
  simp only [Bool.or_eq_true, Bool.and_eq_true] at hb ⊢
  rcases hb with hb | ⟨h1, h2⟩
  · exact Or.inl hb
  · exact Or.inr ⟨h1, behindM_mono h h2⟩

def setRow (M : Nat → Nat → Bool) (k : Nat) (r : Nat → Bool) : Nat → Nat → Bool := fun j => if j = k then r else M j
theorem setRow_same {M : Nat → Nat → Bool} {k : Nat} {r : Nat → Bool} : setRow M k r k = r := by unfold setRow; rw [if_pos rfl]
theorem setRow_ne {M : Nat → Nat → Bool} {k j : Nat} {r : Nat → Bool} (h : j ≠ k) : setRow M k r j = M j := by unfold setRow; rw [if_neg h]

/-- the state of a round, where instructions from k on have been looked at -/
structure Round (code : List In) (W : Nat) (M0 M : Nat → Nat → Bool) (ag : Bool) (k : Nat) : Prop where
  good : Good code W M
  le : ∀ j t, j < code.length → t < W → M0 j t = true → M j t = true
  same : ag = false → (∀ j t, j < code.length → t < W → M j t = M0 j t) ∧ ∀ j t, k ≤ j → j < code.length → t < W → stepM code M j t = true → M j t = true
  less : ag = true → cntM code.length W M < cntM code.length W M0
theorem Round.start {M : Nat → Nat → Bool} (h : Good code W M) : Round code W M M false code.length :=
  ⟨h, fun _ _ _ _ h => h, fun _ => ⟨fun _ _ _ _ => rfl, fun j _ h1 h2 => by omega⟩, fun h => by cases h⟩
theorem Round.step {M0 M : Nat → Nat → Bool} {ag : Bool} {k : Nat} (h : Round code W M0 M ag (k + 1)) (hk : k < code.length) {ag' : Bool} (ha : ag' = (ag || (List.range W).any fun t => stepM code M k t && !M k t)) :
    Round code W M0 (setRow M k (stepM code M k)) ag' k := by
  have hle : ∀ j t, j < code.length → t < W → M j t = true → setRow M k (stepM code M k) j t = true := by
    intro j t hj ht hm
    by_cases e : j = k
    · subst e; rw [setRow_same]; exact h.good.grow j t hj ht hm
    · rw [setRow_ne e]; exact hm
  refine ⟨⟨?_, ?_⟩, fun j t hj ht hm => hle j t hj ht (h.le j t hj ht hm), ?_, ?_⟩
  · intro j t hj ht hm
    by_cases e : j = k
    · subst e
      rw [setRow_same] at hm
      rw [need_iff]
      unfold stepM at hm
      simp only [Bool.or_eq_true, Bool.and_eq_true, Bool.not_eq_true'] at hm
      rcases hm with hm | ⟨h1, h2⟩
      · exact Or.inl hm
      · refine Or.inr ⟨h1, ?_⟩
        unfold behindM at h2
        rw [List.any_eq_true] at h2
        obtain ⟨m, hm, h2⟩ := h2
        refine ⟨m, hm, h.good.sound m t ?_ ht h2⟩
        unfold nx at hm
        simpa using (List.mem_filter.1 hm).2
    · rw [setRow_ne e] at hm
      exact h.good.sound j t hj ht hm
  · intro j t hj ht hm
    apply stepM_mono (M := M) (fun m hml h1 => hle m t hml ht h1)
    by_cases e : j = k
    · subst e; rwa [setRow_same] at hm
    · rw [setRow_ne e] at hm; exact h.good.grow j t hj ht hm
  · intro hf
    rw [hf] at ha
    have ha := ha.symm
    rw [Bool.or_eq_false_iff, List.any_eq_false] at ha
    obtain ⟨a1, a2⟩ := ha
    obtain ⟨s1, s2⟩ := h.same a1
    have hrow : ∀ t, t < W → stepM code M k t = M k t := by
      intro t ht
      have := a2 t (List.mem_range.2 ht)
      cases hs : stepM code M k t with
      | false =>
        cases hm : M k t with
        | false => rfl
        | true => rw [h.good.grow k t hk ht hm] at hs; cases hs
      | true =>
        cases hm : M k t with
        | true => rfl
        | false => rw [hs, hm] at this; simp at this
    have heq : ∀ j t, t < W → setRow M k (stepM code M k) j t = M j t := by
      intro j t ht
      by_cases e : j = k
      · subst e; rw [setRow_same]; exact hrow t ht
      · rw [setRow_ne e]
    refine ⟨fun j t hj ht => by rw [heq j t ht]; exact s1 j t hj ht, fun j t hkj hj ht hs => ?_⟩
    have hs2 : stepM code M j t = true := stepM_mono (M := setRow M k (stepM code M k)) (fun m _ h1 => by rwa [heq m t ht] at h1) hs
    rw [heq j t ht]
    by_cases e : j = k
    · subst e; rw [← hrow t ht]; exact hs2
    · exact s2 j t (by omega) hj ht hs2
  · intro ht
    rw [ht] at ha
    cases hag : ag with
    | true =>
      have := h.less hag
      have := cnt_le (L := code.length) (W := W) hle
      omega
    | false =>
      rw [hag, Bool.false_or] at ha
      have ha := ha.symm
      rw [List.any_eq_true] at ha
      obtain ⟨t, ht, h1⟩ := ha
      rw [Bool.and_eq_true, Bool.not_eq_true'] at h1
      have h2 := cnt_lt (L := code.length) (W := W) hle hk (List.mem_range.1 ht) h1.2 (by rw [setRow_same]; exact h1.1)
      have h3 := cnt_le (L := code.length) (W := W) h.le
      omega
theorem Round.done {M0 M : Nat → Nat → Bool} (h : Round code W M0 M false 0) : ∀ k t, k < code.length → t < W → M k t = needB code k t := by
  intro k t hk ht
  exact need_of_closed (M := M) (t := t) (fun j hj hm => h.good.sound j t hj ht hm) (fun j hj hs => (h.same rfl).2 j t (Nat.zero_le _) hj ht hs) k hk
end

end Go.Proofs.Ytodmkjeankbieab
