/- How programs run, plainly: over whatever store; what a run shows in few steps and in more. No program in sight. -/
import Derived.Test.YtodmkjeankbieabFormPlain
import Derived.Test.YtodmkjeankbieabNumPlain
namespace Go.Proofs.Ytodmkjeankbieab

/-- where a run stands, and what it has shown: the number of the instruction, what has not come in, what came out, how many steps, the state (0 it runs, 1 halted, 2 ended) -/
structure Sh where
  pc : Nat
  ins : List Int
  out : List Int
  steps : Nat
  state : Nat

/-- the instruction at a place -/
def inAt (code : List In) (k : Nat) : In := code.getD k ⟨0, 0, 0, 0, 0, 0⟩

/-- what an instruction gives, of what it takes, and of what comes in -/
def giveV (i : In) (a b x : Int) : Int :=
  if i.op = 1 then i.n else if i.op = 2 then a else if i.op = 3 then x else if i.op = 5 then b * 4294967296 + a else if i.op = 6 then a % 4294967296
  else if i.op = 7 then a / 4294967296 else if 40 < i.op then wideOp (i.op - 40) a b else narrowOp (i.op - 20) (a % 4294967296) (b % 4294967296)
/-- where it goes on -/
def pcV (i : In) (pc : Nat) (a : Int) : Nat := if i.op = 8 ∨ i.op = 9 ∧ a ≠ 0 then i.c.toNat else pc + 1
/-- its state -/
def stV (len : Nat) (i : In) (pc : Nat) (a : Int) : Nat := if i.op = 10 then 1 else if len ≤ pcV i pc a then 2 else 0

/-- a step, of what is taken -/
def shStep (code : List In) (s : Sh) (a : Int) : Sh :=
  let i := inAt code s.pc
  ⟨pcV i s.pc a, if i.op = 3 then s.ins.tail else s.ins, if i.op = 4 then s.out ++ [a % 4294967296] else s.out, s.steps + 1, stV code.length i s.pc a⟩

/-- how what is taken is got, and where what is given goes; σ is the store -/
structure Mach (σ : Type) where
  pre : Nat → σ → σ
  ga : Nat → σ → Int
  gb : Nat → σ → Int
  post : Nat → Int → σ → σ

def mStep {σ : Type} (code : List In) (M : Mach σ) (x : Sh × σ) : Sh × σ :=
  let s1 := M.pre x.1.pc x.2
  let a := M.ga x.1.pc s1
  let b := M.gb x.1.pc s1
  (shStep code x.1 a, M.post x.1.pc (giveV (inAt code x.1.pc) a b (x.1.ins.headD 0)) s1)

def mRun {σ : Type} (code : List In) (M : Mach σ) : Nat → Sh × σ → Sh × σ
  | 0, x => x
  | n + 1, x => if x.1.state = 0 then mRun code M n (mStep code M x) else x

/-- how a run begins -/
def sh0 (ins : List Int) : Sh := ⟨0, ins, [], 0, 0⟩

section
variable {σ : Type} {code : List In} {M : Mach σ}
theorem mRun_stop (n : Nat) {x : Sh × σ} (h : x.1.state ≠ 0) : mRun code M n x = x := by
  cases n with
  | zero => rfl
  | succ n => rw [mRun, if_neg h]
theorem mRun_succ (n : Nat) (x : Sh × σ) : mRun code M (n + 1) x = if (mRun code M n x).1.state = 0 then mStep code M (mRun code M n x) else mRun code M n x := by
  induction n generalizing x with
  | zero => rfl
  | succ n ih =>
    have e1 : ∀ m, mRun code M (m + 1) x = if x.1.state = 0 then mRun code M m (mStep code M x) else x := fun _ => rfl
    rw [e1, e1]
    by_cases h : x.1.state = 0
    · rw [if_pos h, if_pos h]
      exact ih _
    · rw [if_neg h, if_neg h, if_neg h]
theorem mRun_add (n d : Nat) (x : Sh × σ) : mRun code M (n + d) x = mRun code M d (mRun code M n x) := by
  induction n generalizing x with
  | zero => rw [Nat.zero_add]; rfl
  | succ n ih =>
    rw [show n + 1 + d = (n + d) + 1 by omega, mRun, mRun]
    by_cases h : x.1.state = 0
    · rw [if_pos h, if_pos h]; exact ih _
    · rw [if_neg h, if_neg h, mRun_stop d h]
theorem mStep_steps (x : Sh × σ) : (mStep code M x).1.steps = x.1.steps + 1 := rfl
theorem mStep_out (x : Sh × σ) : x.1.out <+: (mStep code M x).1.out := by
  unfold mStep shStep
  simp only
  split
  · exact List.prefix_append _ _
  · exact List.prefix_rfl
theorem mRun_out (n : Nat) (x : Sh × σ) : x.1.out <+: (mRun code M n x).1.out := by
  induction n generalizing x with
  | zero => exact List.prefix_rfl
  | succ n ih =>
    rw [mRun]
    split
    · exact (mStep_out x).trans (ih _)
    · exact List.prefix_rfl
theorem mRun_steps (n : Nat) (x : Sh × σ) : (mRun code M n x).1.steps ≤ x.1.steps + n ∧ ((mRun code M n x).1.state = 0 → (mRun code M n x).1.steps = x.1.steps + n) := by
  induction n generalizing x with
  | zero => exact ⟨Nat.le_refl _, fun _ => rfl⟩
  | succ n ih =>
    rw [mRun]
    by_cases h : x.1.state = 0
    · rw [if_pos h]
      have := ih (mStep code M x)
      rw [mStep_steps] at this
      exact ⟨by omega, fun h => by have := this.2 h; omega⟩
    · rw [if_neg h]
      exact ⟨by omega, fun hc => absurd hc h⟩
theorem mStep_outlen (x : Sh × σ) : (mStep code M x).1.out.length ≤ x.1.out.length + 1 := by
  unfold mStep shStep
  simp only
  split <;> simp
theorem mRun_outlen (n : Nat) (x : Sh × σ) : (mRun code M n x).1.out.length ≤ x.1.out.length + n := by
  induction n generalizing x with
  | zero => exact Nat.le_refl _
  | succ n ih =>
    rw [mRun]
    split
    · have := ih (mStep code M x)
      have := mStep_outlen (code := code) (M := M) x
      omega
    · omega
end

/-! ### temporaries -/
def upd (s : Int → Int) (d v : Int) : Int → Int := fun k => if k = d then v else s k
def mTemps (p : Pg) : Mach (Int → Int) where
  pre _ s := s
  ga k s := s (inAt p.code k).a
  gb k s := s (inAt p.code k).b
  post k v s := if gvs (inAt p.code k).op then upd s (inAt p.code k).d v else s

/-- what run.Run shows -/
def runV (p : Pg) (ins : List Int) (n : Nat) : Sh := (mRun p.code (mTemps p) n (sh0 ins, fun _ => 0)).1

/-! ### registers and slots -/
structure Sto where
  sg : Int → Int
  sl : Int → Int
def getS (s : Sto) (a : PlaceV) : Int :=
  if a.k = 1 then s.sg a.n else if a.k = 2 then s.sg (2 * a.n + 1) * 4294967296 + s.sg (2 * a.n) else if a.k = 3 then s.sl a.n else 0
def putS (s : Sto) (a : PlaceV) (v : Int) : Sto :=
  if a.k = 1 then { s with sg := upd s.sg a.n (v % 4294967296) } else if a.k = 2 then { s with sg := upd (upd s.sg (2 * a.n) (v % 4294967296)) (2 * a.n + 1) (v / 4294967296) }
  else if a.k = 3 then { s with sl := upd s.sl a.n v } else s
def moveS (s : Sto) (m : Mv) : Sto := putS s m.to (if m.c then m.n else getS s m.fr)
def movesS (s : Sto) (l : List Mv) : Sto := l.foldl moveS s
def rwAt (rows : List Rw) (k : Nat) : Rw := rows.getD k ⟨⟨0, 0⟩, ⟨0, 0⟩, ⟨0, 0⟩, [], []⟩
def mPlaces (p : Pg) (rows : List Rw) : Mach Sto where
  pre k s := movesS s (rwAt rows k).before
  ga k s := getS s (rwAt rows k).a
  gb k s := getS s (rwAt rows k).b
  post k v s := movesS (if gvs (inAt p.code k).op then putS s (rwAt rows k).d v else s) (rwAt rows k).after
def doneV (p : Pg) (rows : List Rw) (ins : List Int) (n : Nat) : Sh := (mRun p.code (mPlaces p rows) n (sh0 ins, ⟨fun _ => 0, fun _ => 0⟩)).1

/-- what is shown -/
def shEq (a b : Sh) : Bool := decide (a.state = b.state ∧ a.steps = b.steps ∧ a.out = b.out)

end Go.Proofs.Ytodmkjeankbieab
