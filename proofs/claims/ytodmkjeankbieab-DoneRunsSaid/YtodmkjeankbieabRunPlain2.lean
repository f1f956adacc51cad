/- How a machine that tells its end late stands for a run; what a run's loop holds. No program in sight. -/
import Derived.Test.YtodmkjeankbieabSoundPlain2
namespace Go.Proofs.Ytodmkjeankbieab

/-- where a machine stands, by its own count: that it has ended is told at the end -/
def unF (r : Sh) : Sh := ⟨r.pc, r.ins, r.out, r.steps, if r.state = 2 then 0 else r.state⟩
def rawStep (r : Sh) (i : In) (a : Int) : Sh :=
  ⟨pcV i r.pc a, if i.op = 3 then r.ins.tail else r.ins, if i.op = 4 then r.out ++ [a % 4294967296] else r.out, r.steps + 1, if i.op = 10 then 1 else r.state⟩
theorem raw_step {code : List In} {x : Sh} (h0 : x.state = 0) (a : Int) : rawStep (unF x) (inAt code x.pc) a = unF (shStep code x a) := by
  unfold rawStep unF shStep stV
  simp only [h0]
  by_cases h : (inAt code x.pc).op = 10
  · simp [h]
  · by_cases h2 : code.length ≤ pcV (inAt code x.pc) x.pc a
    · simp [h, h2]
    · simp [h, h2]

section
variable {σ : Type} {code : List In} {M : Mach σ} {x0 : Sh × σ} {n : Nat}
/-- a run's loop of at most n steps stands at x -/
structure At (code : List In) (M : Mach σ) (x0 : Sh × σ) (n : Nat) (x : Sh × σ) : Prop where
  k : x = mRun code M x.1.steps x0
  le : x.1.steps ≤ n
  st0 : x.1.state = 0 → x.1.pc < code.length
  st2 : x.1.state = 2 → code.length ≤ x.1.pc
  st : x.1.state ≤ 2
theorem At.start (s : σ) (ins : List Int) (h : 1 ≤ code.length) : At code M (sh0 ins, s) n (sh0 ins, s) :=
  ⟨rfl, Nat.zero_le _, fun _ => h, fun h => by simp [sh0] at h, by simp [sh0]⟩
theorem At.step {x : Sh × σ} (h : At code M x0 n x) (h0 : x.1.state = 0) (hs : x.1.steps < n) : At code M x0 n (mStep code M x) := by
  have e : (mStep code M x).1.steps = x.1.steps + 1 := rfl
  have e2 : ∀ a, stV code.length (inAt code x.1.pc) x.1.pc a = 0 → pcV (inAt code x.1.pc) x.1.pc a < code.length := by
    intro a; unfold stV; split
    · intro h; cases h
    · split
      · intro h; cases h
      · intro _; omega
  have e3 : ∀ a, stV code.length (inAt code x.1.pc) x.1.pc a = 2 → code.length ≤ pcV (inAt code x.1.pc) x.1.pc a := by
    intro a; unfold stV; split
    · intro h; cases h
    · split
      · intro _; assumption
      · intro h; cases h
  have e4 : ∀ a, stV code.length (inAt code x.1.pc) x.1.pc a ≤ 2 := by
    intro a; unfold stV; split
    · omega
    · split <;> omega
  refine ⟨?_, by rw [e]; omega, e2 _, e3 _, e4 _⟩
  rw [e, mRun_succ, ← h.k, if_pos h0]
theorem At.stop {x : Sh × σ} (h : At code M x0 n x) (hs : x.1.state ≠ 0 ∨ ¬ x.1.steps < n) : x = mRun code M n x0 := by
  have hn : n = x.1.steps + (n - x.1.steps) := by have := h.le; omega
  have h2 : mRun code M n x0 = mRun code M (n - x.1.steps) x := by
    conv => lhs; rw [hn, mRun_add, ← h.k]
  rw [h2]
  rcases hs with hs | hs
  · rw [mRun_stop _ hs]
  · rw [show n - x.1.steps = 0 by omega]; rfl
/-- the machine may go on just where the run does -/
theorem At.goes {x : Sh × σ} (h : At code M x0 n x) : ((unF x.1).state = 0 ∧ x.1.pc < code.length) ↔ x.1.state = 0 := by
  have := h.st; have := h.st0; have := h.st2
  unfold unF
  simp only
  constructor
  · rintro ⟨h1, h2⟩
    split at h1
    · omega
    · exact h1
  · intro h1
    exact ⟨by rw [if_neg (by omega)]; exact h1, h.st0 h1⟩
theorem At.ended {x : Sh × σ} (h : At code M x0 n x) (h1 : (unF x.1).state = 0) (h2 : code.length ≤ x.1.pc) : x.1 = ⟨x.1.pc, x.1.ins, x.1.out, x.1.steps, 2⟩ := by
  have h3 : x.1.state = 2 := by
    have := h.st0
    unfold unF at h1; simp only at h1
    split at h1
    · assumption
    · have := this h1; omega
  obtain ⟨⟨_, _, _, _, _⟩, _⟩ := x
  simp only at h3 ⊢
  rw [h3]
theorem At.same {x : Sh × σ} (h : At code M x0 n x) (h1 : (unF x.1).state ≠ 0 ∨ x.1.pc < code.length) : unF x.1 = x.1 := by
  have h3 : x.1.state ≠ 2 := by
    intro e
    have := h.st2 e
    rcases h1 with h1 | h1
    · unfold unF at h1; simp [e] at h1
    · omega
  obtain ⟨⟨_, _, _, _, _⟩, _⟩ := x
  simp only at h3
  unfold unF
  simp only
  rw [if_neg h3]
/-- bounds of what a run holds -/
theorem At.out {x : Sh × σ} (h : At code M x0 n x) (h0 : x0.1.out = []) : x.1.out.length ≤ n := by
  have := mRun_outlen (code := code) (M := M) x.1.steps x0
  rw [← h.k, h0] at this
  have := h.le
  simp at *
  omega
theorem mStep_ins (x : Sh × σ) : ∀ y ∈ (mStep code M x).1.ins, y ∈ x.1.ins := by
  unfold mStep shStep
  simp only
  split
  · intro y hy; exact List.mem_of_mem_tail hy
  · exact fun _ h => h
theorem mRun_ins (n : Nat) (x : Sh × σ) : ∀ y ∈ (mRun code M n x).1.ins, y ∈ x.1.ins := by
  induction n generalizing x with
  | zero => exact fun _ h => h
  | succ n ih =>
    rw [mRun]
    split
    · intro y hy; exact mStep_ins x y (ih _ y hy)
    · exact fun _ h => h
theorem At.ins {x : Sh × σ} (h : At code M x0 n x) : ∀ y ∈ x.1.ins, y ∈ x0.1.ins := by
  have := mRun_ins (code := code) (M := M) x.1.steps x0
  rwa [← h.k] at this
theorem mStep_insl (x : Sh × σ) : (mStep code M x).1.ins.length ≤ x.1.ins.length := by
  unfold mStep shStep
  simp only
  split <;> simp
end

/-- the temporaries of a run: numbers of their widths -/
structure Temps (p : Pg) (T : Int → Int) : Prop where
  ge : ∀ t, 0 ≤ T t
  lt : ∀ t, T t < 18446744073709551616
  nar : ∀ t, wd p.wide t = false → T t < 4294967296
theorem Temps.zero (p : Pg) : Temps p (fun _ => 0) := ⟨fun _ => by decide, fun _ => by decide, fun _ _ => by decide⟩
theorem Temps.step {p : Pg} {x : Sh × (Int → Int)} (h : Temps p x.2) (hm : mayB p = true) (hn : NumOk p) (hp : x.1.pc < p.code.length) (hi : ∀ y ∈ x.1.ins, 0 ≤ y ∧ y < 4294967296) : Temps p (mStep p.code (mTemps p) x).2 := by
  have hI := inAt_mem hp
  have hok := insOk (mayB_ins hm hI)
  show Temps p (if gvs (inAt p.code x.1.pc).op then upd x.2 (inAt p.code x.1.pc).d (giveV (inAt p.code x.1.pc) (x.2 (inAt p.code x.1.pc).a) (x.2 (inAt p.code x.1.pc).b) (x.1.ins.headD 0)) else x.2)
  by_cases hg : gvs (inAt p.code x.1.pc).op = true
  · rw [if_pos hg]
    have hx : 0 ≤ x.1.ins.headD 0 ∧ x.1.ins.headD 0 < 4294967296 := by
      cases h0 : x.1.ins with
      | nil => simp
      | cons y l => exact hi y (by rw [h0]; simp)
    obtain ⟨g1, g2⟩ := giveV_range (fun t => ⟨h.ge t, h.lt t⟩) h.nar hok (hn _ hI) hg hx
    refine ⟨fun t => ?_, fun t => ?_, fun t ht => ?_⟩
    · unfold upd; split
      · exact g1.1
      · exact h.ge t
    · unfold upd; split
      · exact g1.2
      · exact h.lt t
    · unfold upd; split
      · rename_i e; subst e; exact g2 ht
      · exact h.nar t ht
  · rw [if_neg hg]; exact h

/-- what a run shows in few steps and in more -/
theorem run_longer (p : Pg) (ins : List Int) {few more : Nat} (h : few ≤ more) :
    (runV p ins few).out <+: (runV p ins more).out ∧ ((runV p ins few).state ≠ 0 → runV p ins more = runV p ins few) ∧ (runV p ins few).steps ≤ few ∧ ((runV p ins few).state = 0 → (runV p ins few).steps = few) := by
  unfold runV
  have e := mRun_add (code := p.code) (M := mTemps p) few (more - few) (sh0 ins, fun _ => 0)
  rw [show few + (more - few) = more by omega] at e
  have h1 := mRun_steps (code := p.code) (M := mTemps p) few (sh0 ins, fun _ => 0)
  refine ⟨?_, ?_, ?_, ?_⟩
  · rw [e]; exact mRun_out _ _
  · intro h; rw [e, mRun_stop _ h]
  · have := h1.1; simpa [sh0] using this
  · intro h; have := h1.2 h; simpa [sh0] using this
end Go.Proofs.Ytodmkjeankbieab
