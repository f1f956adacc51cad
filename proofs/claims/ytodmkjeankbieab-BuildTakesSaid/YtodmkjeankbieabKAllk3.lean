/- Texts of this claim, packed. -/
import Derived.Test.YtodmkjeankbieabKAllk0
set_option linter.all false
namespace Go.Proofs.Ytodmkjeankbieab

def Uni (s : FS) : Prop := ∀ t n n', s (knF t n) → s (knF t n') → n = n'
theorem kn_inj {t t' : Int} {n n' : Nat} (h : knF t n = knF t' n') : t = t' ∧ n = n' := by
 unfold knF at h
 injection h with _ _ h1 h2
 exact ⟨h1, h2⟩
section
variable {p : Pg} {sg sl : Int} {s : FS}
theorem moveF_kn (hu : InU p sg sl s) {m : Mv} (hm : mvB sg sl m = true) {t : Int} {n : Nat} (h : moveF p s m (knF t n)) : s (knF t n) := by
 have h0 := isB_kind (mvB_facts hm).1
 rcases h with h1 | ⟨_, _, h1⟩ | ⟨_, g, _, _, _, h1⟩ | ⟨_, g, _, _, ⟨_, _, h1⟩ | ⟨_, _, h1⟩⟩
 · exact h1.1
 · injection h1 with _ h1; cases h1
 · injection h1 with h1; rw [← h1] at h0; simp at h0
 · injection h1 with h1; rw [← h1] at h0; simp at h0
 · injection h1 with _ h1; cases h1
theorem movesF_kn : ∀ (l : List Mv) {s : FS}, InU p sg sl s → (∀ m ∈ l, mvB sg sl m = true) → ∀ {t : Int} {n : Nat}, movesF p s l (knF t n) → s (knF t n)
 | [], _, _, _, _, _, h => h
 | m :: l, _, hu, hm, _, _, h => moveF_kn hu (hm m (by simp)) (movesF_kn l (moveF_in hu (hm m (by simp))) (fun x hx => hm x (List.mem_cons_of_mem _ hx)) h)
theorem giveF_uni (hu : InU p sg sl s) {i : In} {a : PlaceV} (ha : isB sg sl a = true) (h : Uni s) : Uni (giveF s i a) := by
 have h0 := isB_kind ha
 have key : ∀ t n, giveF s i a (knF t n) → (s (knF t n) ∧ t ≠ i.d) ∨ (t = i.d ∧ i.op = 1 ∧ n = i.n) ∨ (t = i.d ∧ i.op = 2 ∧ s (knF i.a n)) := by
   intro t n h1
   rcases h1 with h1 | ⟨ho, h1⟩ | ⟨ho, h1⟩ | h1
   · left
     refine ⟨h1.1, ?_⟩
     rcases h1.2.2 with h2 | h2
     · cases h2
     · exact h2
   · rcases h1 with ⟨g, hg, ht, _, _, h1⟩ | h1 | h1
     · injection h1 with h1 _ _ _
       have := (factIn_num (hu g hg) ht).1
       rw [← h1] at this
       have := isB_kind this
       simp at this
     · obtain ⟨e1, e2⟩ := kn_inj h1
       exact Or.inr (Or.inl ⟨e1, ho, e2⟩)
     · injection h1 with _ h1; cases h1
   · rcases h1 with ⟨g, hg, ht, hga, h1⟩ | h1
     · rcases h1 with ⟨hk, h1 | h1⟩ | ⟨hk, _, h1⟩
       · obtain ⟨e1, e2⟩ := kn_inj h1
         obtain ⟨q1, q2, _⟩ := factIn_k0 (hu g hg) hk
         refine Or.inr (Or.inr ⟨e1, ho, ?_⟩)
         have : g = knF i.a n := by
           obtain ⟨gp, gt, g1, g2⟩ := g
           simp only at q1 q2 hga e2
           subst q1; subst q2; subst hga; subst e2; rfl
         rw [← this]; exact hg
       · injection h1 with _ h1; cases h1
       · injection h1 with h1
         rw [← h1] at hk; simp at hk
     · injection h1 with h1; rw [← h1] at h0; simp at h0
   · injection h1 with h1; rw [← h1] at h0; simp at h0
 intro t n n' h1 h2
 rcases key t n h1 with ⟨a1, a2⟩ | ⟨a1, a2, a3⟩ | ⟨a1, a2, a3⟩ <;> rcases key t n' h2 with ⟨b1, b2⟩ | ⟨b1, b2, b3⟩ | ⟨b1, b2, b3⟩
 · exact h _ _ _ a1 b1
 · exact absurd b1 a2
 · exact absurd b1 a2
 · exact absurd a1 b2
 · rw [a3, b3]
 · omega
 · exact absurd a1 b2
 · omega
 · exact h _ _ _ a3 b3
end

theorem Kn_uni {p : Pg} {sg : Int} {l : Pd} (hm : mayL p sg l = true) : ∀ k, Come p.code k → Uni (Kn p sg l k) := by
 obtain ⟨mB, tB, s0, s1, hl⟩ := mayL_facts hm
 apply Come.ind
 · intro t n n' h1 h2
   have e1 := ((Kn_sol (p := p) (sg := sg) (l := l)).1 _ h1).2
   have e2 := ((Kn_sol (p := p) (sg := sg) (l := l)).1 _ h2).2
   exact Eq.trans (b := 0) e1 e2.symm
 · intro k m hk hU hmk
   have hIn := Kn_in hm k hk
   have hkl := hk.lt (by have := mayB_len mB; omega)
   have hi := insOk (mayB_ins mB (inAt_mem hkl))
   obtain ⟨r1, r2, r3, _⟩ := rwB_facts (mayL_row hm hkl) hi.kn
   have hs := fun f h => (Kn_sol (p := p) (sg := sg) (l := l)).2 k hk m hmk f h
   have hM1 := movesF_in _ hIn r1
   have hU1 : Uni (movesF p (Kn p sg l k) (rwAt l.rows k).before) := fun t n n' a b => hU t n n' (movesF_kn _ hIn r1 a) (movesF_kn _ hIn r1 b)
   have hI : InU p sg l.slots (insF (movesF p (Kn p sg l k) (rwAt l.rows k).before) (inAt p.code k) (rwAt l.rows k).d) := by
     unfold insF
     split
     · rename_i hg
       exact giveF_in hM1 hi hg (r3 hg) (inAt_mem hkl)
     · exact hM1
   have hU2 : Uni (insF (movesF p (Kn p sg l k) (rwAt l.rows k).before) (inAt p.code k) (rwAt l.rows k).d) := by
     unfold insF
     split
     · rename_i hg
       exact giveF_uni hM1 (r3 hg).2 hU1
     · exact hU1
   intro t n n' a b
   exact hU2 t n n' (movesF_kn _ hI r2 (hs _ a)) (movesF_kn _ hI r2 (hs _ b))
end Go.Proofs.Ytodmkjeankbieab

