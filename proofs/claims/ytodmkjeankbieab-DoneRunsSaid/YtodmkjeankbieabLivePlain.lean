/- What is needed, and what is near, plainly. No program in sight. -/
import Derived.Test.YtodmkjeankbieabRunPlain
namespace Go.Proofs.Ytodmkjeankbieab

/-- does an instruction take a temporary? -/
def takesB (i : In) (t : Nat) : Bool := (uses i).contains (t : Int)
/-- does it give it? -/
def givesB (i : In) (t : Nat) : Bool := gvs i.op && decide (i.d = (t : Int))
/-- where it goes on, those that there are -/
def nx (code : List In) (k : Nat) : List Nat := ((nexts (inAt code k) k).map Int.toNat).filter (fun m => decide (m < code.length))

/-- needed within n steps -/
def needN (code : List In) (t : Nat) : Nat → Nat → Bool
  | 0, _ => false
  | n + 1, k => takesB (inAt code k) t || (!givesB (inAt code k) t && (nx code k).any (needN code t n))
def Need (code : List In) (t k : Nat) : Prop := ∃ n, needN code t n k = true
open Classical in
noncomputable def needB (code : List In) (k t : Nat) : Bool := decide (Need code t k)

theorem needN_mono {code : List In} {t : Nat} : ∀ {n k : Nat}, needN code t n k = true → needN code t (n + 1) k = true := by
  intro n
  induction n with
  | zero => intro k h; simp [needN] at h
  | succ n ih =>
    intro k h
    rw [needN] at h ⊢
    simp only [Bool.or_eq_true, Bool.and_eq_true, List.any_eq_true] at h ⊢
    rcases h with h | ⟨h1, m, hm, h2⟩
    · exact Or.inl h
    · exact Or.inr ⟨h1, m, hm, ih h2⟩
theorem need_iff (code : List In) (t k : Nat) : Need code t k ↔ takesB (inAt code k) t = true ∨ (givesB (inAt code k) t = false ∧ ∃ m ∈ nx code k, Need code t m) := by
  constructor
  · rintro ⟨n, h⟩
    cases n with
    | zero => simp [needN] at h
    | succ n =>
      rw [needN] at h
      simp only [Bool.or_eq_true, Bool.and_eq_true, List.any_eq_true, Bool.not_eq_true'] at h
      rcases h with h | ⟨h1, m, hm, h2⟩
      · exact Or.inl h
      · exact Or.inr ⟨h1, m, hm, n, h2⟩
  · rintro (h | ⟨h1, m, hm, n, h2⟩)
    · exact ⟨1, by simp [needN, h]⟩
    · refine ⟨n + 1, ?_⟩
      rw [needN]
      simp only [Bool.or_eq_true, Bool.and_eq_true, List.any_eq_true, Bool.not_eq_true']
      exact Or.inr ⟨h1, m, hm, h2⟩

/-- what is needed behind an instruction, by what is needed ahead of all -/
def behindM (code : List In) (M : Nat → Nat → Bool) (k t : Nat) : Bool := (nx code k).any fun m => M m t
/-- .. ahead of it -/
def stepM (code : List In) (M : Nat → Nat → Bool) (k t : Nat) : Bool := takesB (inAt code k) t || (!givesB (inAt code k) t && behindM code M k t)

theorem needB_iff {code : List In} {k t : Nat} : needB code k t = true ↔ Need code t k := by unfold needB; simp
theorem needB_step (code : List In) (k t : Nat) : needB code k t = stepM code (needB code) k t := by
  rw [Bool.eq_iff_iff, needB_iff, need_iff]
  unfold stepM behindM
  simp [needB_iff]

/-- truths that hold of nothing that is not needed, and that are closed, are those of what is needed -/
theorem need_of_closed {code : List In} {M : Nat → Nat → Bool} {t : Nat} (hs : ∀ k, k < code.length → M k t = true → Need code t k) (hc : ∀ k, k < code.length → stepM code M k t = true → M k t = true) :
    ∀ k, k < code.length → M k t = needB code k t := by
  have h1 : ∀ n k, k < code.length → needN code t n k = true → M k t = true := by
    intro n
    induction n with
    | zero => intro k _ h; simp [needN] at h
    | succ n ih =>
      intro k hk h
      apply hc k hk
      rw [needN] at h
      unfold stepM behindM
      simp only [Bool.or_eq_true, Bool.and_eq_true, List.any_eq_true, Bool.not_eq_true'] at h ⊢
      rcases h with h | ⟨h1, m, hm, h2⟩
      · exact Or.inl h
      · refine Or.inr ⟨h1, m, hm, ih m ?_ h2⟩
        unfold nx at hm
        simpa using (List.mem_filter.1 hm).2
  intro k hk
  rw [Bool.eq_iff_iff, needB_iff]
  exact ⟨hs k hk, fun ⟨n, h⟩ => h1 n k hk h⟩

/-- a set that is closed and takes nothing: nothing is needed there -/
theorem need_not {code : List In} {t : Nat} (C : Nat → Prop) (hc : ∀ k, C k → takesB (inAt code k) t = false ∧ (givesB (inAt code k) t = false → ∀ m ∈ nx code k, C m)) : ∀ k, C k → needB code k t = false := by
  have h1 : ∀ n k, C k → needN code t n k = false := by
    intro n
    induction n with
    | zero => intro k _; rfl
    | succ n ih =>
      intro k hk
      rw [needN, (hc k hk).1, Bool.false_or]
      cases hg : givesB (inAt code k) t with
      | true => rfl
      | false =>
        simp only [Bool.not_false, Bool.true_and, List.any_eq_false]
        intro m hm
        rw [ih m ((hc k hk).2 hg m hm)]
        simp
  intro k hk
  rw [Bool.eq_false_iff]
  intro h
  obtain ⟨n, hn⟩ := needB_iff.1 h
  rw [h1 n k hk] at hn
  cases hn

/-- what is needed ahead of each instruction -/
noncomputable def needM (p : Pg) : List (List Bool) := (List.range p.code.length).map fun k => (List.range p.wide.length).map fun t => needB p.code k t

/-! ### what is near -/
/-- an instruction gives the one where the other one is needed behind it -/
def nearAt (code : List In) (M : Nat → Nat → Bool) (k a b : Nat) : Bool :=
  givesB (inAt code k) a && !(decide ((inAt code k).op = 2) && decide ((inAt code k).a = (b : Int))) && behindM code M k b
noncomputable def nearB (code : List In) (a b : Nat) : Bool :=
  decide (a ≠ b) && ((needB code 0 a && needB code 0 b) || (List.range code.length).any fun k => nearAt code (needB code) k a b || nearAt code (needB code) k b a)
noncomputable def nearM (p : Pg) : List (List Bool) := (List.range p.wide.length).map fun a => (List.range p.wide.length).map fun b => nearB p.code a b

theorem nearB_comm (code : List In) (a b : Nat) : nearB code a b = nearB code b a := by
  unfold nearB
  have h1 : decide (a ≠ b) = decide (b ≠ a) := by rw [decide_eq_decide]; exact ne_comm
  rw [h1, Bool.and_comm (needB code 0 a)]
  congr 2
  congr 1
  funext k
  rw [Bool.or_comm]
theorem nearB_self (code : List In) (a : Nat) : nearB code a a = false := by unfold nearB; simp
theorem nearB_first {code : List In} {a b : Nat} (h : a ≠ b) (ha : needB code 0 a = true) (hb : needB code 0 b = true) : nearB code a b = true := by
  unfold nearB
  simp [h, ha, hb]

end Go.Proofs.Ytodmkjeankbieab
