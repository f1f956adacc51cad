/- Places that are taken still are, where something is moved into a slot more ahead of an instruction, plainly. No program in sight. -/
import Derived.Test.YtodmkjeankbieabBuildPlain
namespace Go.Proofs.Ytodmkjeankbieab

/-- a move more ahead of instruction k -/
def moreAt (rows : List Rw) (k : Nat) (m : Mv) : List Rw := rows.set k { rwAt rows k with before := m :: (rwAt rows k).before }
def idleMv (s n : Int) : Mv := ⟨⟨3, s⟩, ⟨1, n⟩, false, 0⟩

section
variable {p : Pg} {sg sl sl' : Int}
theorem mvB_more {m : Mv} (h : mvB sg sl m = true) (hs : sl ≤ sl') : mvB sg sl' m = true := by
  unfold mvB at *
  rw [Bool.and_eq_true] at h ⊢
  refine ⟨isB_more h.1 (Int.le_refl _) hs, ?_⟩
  have h2 := h.2
  split at h2
  · rw [if_pos ‹_›]; exact h2
  · rw [if_neg ‹_›]
    simp only [Bool.and_eq_true] at h2 ⊢
    exact ⟨⟨h2.1.1, isB_more h2.1.2 (Int.le_refl _) hs⟩, h2.2⟩
theorem mvsB_more {l : List Mv} (h : mvsB sg sl l = true) (hs : sl ≤ sl') : mvsB sg sl' l = true := by
  unfold mvsB at *
  simp only [Bool.and_eq_true, List.all_eq_true] at h ⊢
  exact ⟨fun m hm => mvB_more (h.1 m hm) hs, h.2⟩
theorem plB_more {wide : List Bool} {l : UInt8} {t : Int} {a : PlaceV} (h : plB wide sg sl l t a = true) (hs : sl ≤ sl') : plB wide sg sl' l t a = true := by
  unfold plB at *
  simp only [Bool.and_eq_true, Bool.not_eq_true'] at h ⊢
  refine ⟨h.1, ?_⟩
  have h2 := h.2
  rw [Bool.and_eq_false_iff] at h2 ⊢
  rcases h2 with h2 | h2
  · exact Or.inl h2
  · refine Or.inr ?_
    simp only [Bool.not_eq_false'] at h2 ⊢
    exact isB_more h2 (Int.le_refl _) hs
theorem rwB_more {i : In} {r : Rw} (h : rwB p sg sl i r = true) (hs : sl ≤ sl') : rwB p sg sl' i r = true := by
  unfold rwB at *
  simp only [Bool.and_eq_true] at h ⊢
  obtain ⟨⟨⟨h0, h1⟩, h2⟩, ⟨h3, h4⟩, h5⟩ := h
  exact ⟨⟨⟨plB_more h0 hs, plB_more h1 hs⟩, plB_more h2 hs⟩, ⟨mvsB_more h3 hs, mvsB_more h4 hs⟩, h5⟩
theorem rwB_add {i : In} {r : Rw} {m : Mv} (h : rwB p sg sl i r = true) (hm : mvB sg sl m = true) (hl : r.before.length < 6) : rwB p sg sl i { r with before := m :: r.before } = true := by
  unfold rwB at *
  simp only [Bool.and_eq_true] at h ⊢
  obtain ⟨⟨⟨h0, h1⟩, h2⟩, ⟨h3, h4⟩, h5⟩ := h
  refine ⟨⟨⟨h0, h1⟩, h2⟩, ⟨?_, h4⟩, h5⟩
  unfold mvsB at h3 ⊢
  simp only [Bool.and_eq_true, List.all_cons, List.length_cons, decide_eq_true_eq] at h3 ⊢
  exact ⟨⟨hm, h3.1⟩, by omega⟩

theorem rwAt_more {rows : List Rw} {k j : Nat} {m : Mv} (hk : k < rows.length) (hj : j < rows.length) : rwAt (moreAt rows k m) j = if j = k then { rwAt rows k with before := m :: (rwAt rows k).before } else rwAt rows j := by
  unfold moreAt
  rw [rwAt_get (by simpa using hj), List.getElem_set]
  by_cases h : k = j
  · rw [if_pos h, if_pos h.symm]
  · rw [if_neg h, if_neg (fun e => h e.symm), rwAt_get hj]

theorem idle_may {s n : Int} {rows : List Rw} {k : Nat} (h : mayL p sg ⟨s, rows⟩ = true) (hk : k < rows.length) (hs : s < 12) (hb : (rwAt rows k).before.length < 6) (hn : 0 ≤ n ∧ n < sg) : mayL p sg ⟨s + 1, moreAt rows k (idleMv s n)⟩ = true := by
  obtain ⟨h1, h2, h3, h4, h5⟩ := mayL_facts h
  have hrow := fun (j : Nat) (hj : j < p.code.length) => mayL_row h hj
  simp only at h3 h4 h5 hrow
  unfold mayL
  simp only [Bool.and_eq_true, decide_eq_true_eq]
  refine ⟨⟨⟨⟨⟨h1, h2⟩, by omega⟩, by omega⟩, by unfold moreAt; simpa using h5⟩, ?_⟩
  rw [List.all_eq_true]
  intro x hx
  obtain ⟨j, hj, rfl⟩ := List.mem_iff_getElem.1 hx
  have hj1 : j < p.code.length := by simp at hj; omega
  simp only [List.getElem_zip]
  have e : (moreAt rows k (idleMv s n))[j]'(by unfold moreAt; simp; omega) = rwAt (moreAt rows k (idleMv s n)) j := (rwAt_get _).symm
  rw [e, rwAt_more hk (by omega), ← inAt_get hj1]
  by_cases hjk : j = k
  · rw [if_pos hjk, hjk]
    refine rwB_add (rwB_more (hrow k (by omega)) (by omega)) ?_ hb
    unfold mvB idleMv
    have e1 : isB sg (s + 1) ⟨3, s⟩ = true := by unfold isB; simp; omega
    have e2 : isB sg (s + 1) ⟨1, n⟩ = true := by unfold isB; simp; omega
    simp [e1, e2]
  · rw [if_neg hjk]
    exact rwB_more (hrow j hj1) (by omega)

theorem factIn_more {f : Fc} (h : FactIn p sg sl f) (hs : sl ≤ sl') : FactIn p sg sl' f := by
  rcases h with h | ⟨h1, h2⟩ | ⟨h1, h2⟩
  · exact Or.inl h
  · exact Or.inr (Or.inl ⟨isB_more h1 (Int.le_refl _) hs, h2⟩)
  · exact Or.inr (Or.inr ⟨isB_more h1 (Int.le_refl _) hs, h2⟩)
theorem fact_idle {f : Fc} {s n : Int} {S : FS} (hf : FactIn p sg s f) (h : S f) : moveF p S (idleMv s n) f := by
  have hov : ovP f.pl ⟨3, s⟩ = false ∨ f.pl.k = 0 := by
    rcases hf with ⟨h, _⟩ | ⟨h, _⟩ | ⟨h, _⟩
    · right; rw [h]
    all_goals
      left
      unfold isB at h
      have h := of_decide_eq_true h
      unfold ovP
      simp only
      rw [if_neg (by omega), if_neg (by omega)]
      apply decide_eq_false
      intro ⟨e1, e2⟩
      rw [if_neg (by omega), if_neg (by omega), if_pos e1] at h
      omega
  refine Or.inl ⟨h, ?_, ?_⟩
  · rcases hov with h | h
    · exact Or.inr h
    · exact Or.inl h
  · rcases hf with ⟨_, _, h, _⟩ | ⟨_, _, _, h, _⟩ | ⟨_, h, _⟩
    · right; have := h.1; omega
    · right; have := h.1; omega
    · left; exact h

theorem idle_taken {s n : Int} {rows : List Rw} {k : Nat} (h : mayL p sg ⟨s, rows⟩ = true) (ht : Taken p sg ⟨s, rows⟩) (hk : k < rows.length) : Taken p sg ⟨s + 1, moreAt rows k (idleMv s n)⟩ := by
  obtain ⟨h1, h2, h3, h4, h5⟩ := mayL_facts h
  simp only at h5
  have hl := mayB_len h1
  have hU := Kn_in h
  have hbef : ∀ j, Come p.code j → ∀ f, movesF p (Kn p sg ⟨s, rows⟩ j) (rwAt rows j).before f → movesF p (Kn p sg ⟨s, rows⟩ j) (rwAt (moreAt rows k (idleMv s n)) j).before f := by
    intro j hj f hf
    have hjl := hj.lt (by omega)
    rw [rwAt_more hk (by omega)]
    by_cases hjk : j = k
    · rw [if_pos hjk]
      show movesF p (moveF p (Kn p sg ⟨s, rows⟩ j) (idleMv s n)) (rwAt rows k).before f
      rw [← hjk]
      exact movesF_mono _ (fun g hg => fact_idle (hU j hj g hg) hg) f hf
    · rw [if_neg hjk]; exact hf
  have hsame : ∀ j, j < p.code.length → (rwAt (moreAt rows k (idleMv s n)) j).d = (rwAt rows j).d ∧ (rwAt (moreAt rows k (idleMv s n)) j).a = (rwAt rows j).a ∧ (rwAt (moreAt rows k (idleMv s n)) j).b = (rwAt rows j).b ∧ (rwAt (moreAt rows k (idleMv s n)) j).after = (rwAt rows j).after := by
    intro j hj
    rw [rwAt_more hk (by omega)]
    by_cases hjk : j = k
    · rw [if_pos hjk, hjk]; exact ⟨rfl, rfl, rfl, rfl⟩
    · rw [if_neg hjk]; exact ⟨rfl, rfl, rfl, rfl⟩
  refine taken_of_sol (Y := Kn p sg ⟨s, rows⟩) ⟨?_, ?_⟩ ?_
  · intro f hf
    have := (Kn_sol (p := p) (sg := sg) (l := ⟨s, rows⟩)).1 f hf
    exact ⟨factIn_more this.1 (by simp only; omega), this.2⟩
  · intro j hj m hm f hf
    have hjl := hj.lt (by omega)
    have := (Kn_sol (p := p) (sg := sg) (l := ⟨s, rows⟩)).2 j hj m hm f hf
    obtain ⟨e1, e2, e3, e4⟩ := hsame j hjl
    unfold thruF at this ⊢
    simp only at this ⊢
    rw [e1, e4]
    exact movesF_mono _ (insF_mono (hbef j hj) _ _) f this
  · intro j hj
    have hjl := hj.lt (by omega)
    have := ht j hj
    obtain ⟨e1, e2, e3, e4⟩ := hsame j hjl
    unfold tookF at this ⊢
    simp only at this ⊢
    rw [e2, e3]
    exact ⟨fun hg => hbef j hj _ (this.1 hg), fun hg => hbef j hj _ (this.2 hg)⟩
end

end Go.Proofs.Ytodmkjeankbieab
